/-
  A table that is turned by the rounds of a loop over itself; what such a loop tells is given beforehand.
-/
import Derived.Test.YtoglklldclgcbaaTbKn2
namespace Go.Proofs.Ytoglklldclgcbaa
open Go.RowKit Go.Shelf Sk
namespace Tb

/-- the chapter's table in a box b, what was told in a box bu; all since Wc -/
structure ChE (Wc : World) (t b bu : Nat) (s : ByteArray) (r : List Row) (W : World) : Prop where
  ex : ∃ P, At P W t r ∧ (∀ k, P k → Wc.heap.size ≤ k ∧ k ≠ b ∧ k ≠ bu) ∧ (∀ k, P k → ∃ T, kindOf W k = some T)
  le : Wc.heap.size ≤ b
  lt : b < bu
  box : Boxed W b 23 (TP t)
  up : Boxed W bu 9 (.string s)
/-- between two rounds: the table's rows hang on what was told; its keys stand in the box b -/
structure ChI (F : Nat → Prop) (wL : World) (t b : Nat) (rowsOf : List Row → List Row) (told pre : List Row) (W : World) : Prop where
  fr : Turns (fun k => ¬ F k) wL W
  ex : ∃ P, At P W t (rowsOf pre) ∧ (∀ k, P k → ¬ F k ∧ k ≠ b) ∧ (∀ k, P k → ∃ T, kindOf W k = some T)
  box : Boxed W b 9 (.string (catK pre))
  told : ∃ m, pre = told.take m ∧ m ≤ told.length
/-- within a round -/
structure ChJ (F : Nat → Prop) (wL : World) (t b : Nat) (s : ByteArray) (r : List Row) (W0 W : World) : Prop where
  kp : KeepsFrom wL.heap.size W0 W
  fr : Turns (fun k => ¬ F k) wL W
  ex : ∃ P, At P W t r ∧ (∀ k, P k → ¬ F k ∧ k ≠ b) ∧ (∀ k, P k → ∃ T, kindOf W k = some T)
  box : Boxed W b 9 (.string s)
section
variable {F : Nat → Prop} {wL : World} {t b : Nat} {s : ByteArray} {r : List Row} {W0 W W' : World}
theorem ChI.start {rowsOf : List Row → List Row} {told pre : List Row} (h : ChI F wL t b rowsOf told pre W) : ChJ F wL t b (catK pre) (rowsOf pre) W W := ⟨KeepsFrom.refl _ _, h.fr, h.ex, h.box⟩
theorem ex_keep (h : ∃ P, At P W t r ∧ (∀ k, P k → ¬ F k ∧ k ≠ b) ∧ (∀ k, P k → ∃ T, kindOf W k = some T)) {S : Nat → Prop} (ht : Turns S W W') (hS : ∀ k, S k → k = b ∨ kindOf W k = none) : ∃ P, At P W' t r ∧ (∀ k, P k → ¬ F k ∧ k ≠ b) ∧ (∀ k, P k → ∃ T, kindOf W' k = some T) := by
  obtain ⟨P, h1, h2, h3⟩ := h
  have hno : ∀ k, P k → ¬ S k := fun k hk hs => by
    rcases hS k hs with e | e
    · exact (h2 k hk).2 e
    · obtain ⟨T, hT⟩ := h3 k hk
      rw [e] at hT
      cases hT
  refine ⟨P, h1.keep ht hno, h2, fun k hk => ?_⟩
  obtain ⟨T, hT⟩ := h3 k hk
  refine ⟨T, ?_⟩
  unfold kindOf
  rw [ht.block k (h1.lt k hk) (hno k hk)]
  exact hT
theorem ChJ.below (h : ChJ F wL t b s r W0 W) (hb : Below W.heap.size W W') : ChJ F wL t b s r W0 W' :=
  ⟨h.kp.trans (keeps_below hb), h.fr.trans (Turns.of_below (S := fun k => ¬ F k) hb) (fun _ _ h => h), ex_keep h.ex (Turns.of_below (S := fun _ => False) hb) (fun _ e => e.elim), (hb.block b h.box.lt).trans h.box⟩
theorem ChJ.set (h : ChJ F wL t b s r W0 W) (hF : ¬ F b) (s' : ByteArray) : ChJ F wL t b s' r W0 (W.setCell ⟨b, 0, none⟩ (.string s')) :=
  ⟨h.kp.trans ((KeepsOthers.setCell W _ _).from _), h.fr.trans (set_turns W b (.string s')) (fun _ _ e => e ▸ hF), ex_keep h.ex (set_turns W b (.string s')) (fun _ e => .inl e), h.box.set _⟩
theorem ChJ.apply (h : ChJ F wL t b s r W0 W) (hFl : ∀ k, F k → k < wL.heap.size) (hb : Below W.heap.size W W') {A : Option Addr} {len cap : Nat} {l : List Chg} (ho : Ops W' A len cap l) (hA : ∀ g o, A = some ⟨g, o, none⟩ → l ≠ [] → W.heap.size ≤ g) (hr : r.length ≤ 900000) :
    Calls Try.prog 14 #[TP t, .slice A len cap] W' fun e w' => e = .returned (.int .i64 (chkO l)) ∧ ChJ F wL t b s (appT l r) W0 w' := by
  obtain ⟨P, h1, h2, h3⟩ := h.ex
  have h' := h.below hb
  refine (Apply_at (h1.below hb) ho (fun g o hg hl hp => by have := h1.lt g hp; have := hA g o hg hl; omega) hr).mono fun e w' ⟨he, ht, hf⟩ => ⟨he, ?_⟩
  have hk' : ∀ k, P k → ∃ T, kindOf W' k = some T := fun k hk => by
    obtain ⟨T, hT⟩ := h3 k hk
    refine ⟨T, ?_⟩
    unfold kindOf
    rw [hb.block k (h1.lt k hk)]
    exact hT
  obtain ⟨P0, p1, p2, p3⟩ := ht.exact
  refine ⟨h'.kp.trans (keeps_turns hf hk'), h'.fr.trans hf (fun k _ hk => (h2 k hk).1), ⟨P0, p1, fun k hk => ?_, p3⟩, (hf.block b h'.box.lt (fun hp => (h2 b hp).2 rfl)).trans h'.box⟩
  rcases p2 k hk with hk | hk
  · exact h2 k hk
  · have h4 := hk.1
    have h5 := h'.fr.size
    have h6 := h'.box.lt
    exact ⟨fun hF => by have := hFl k hF; omega, by omega⟩
theorem ChJ.ends {rowsOf : List Row → List Row} {told pre : List Row} (h : ChJ F wL t b s r W0 W) (hs : s = catK pre) (hr : r = rowsOf pre) (ht : ∃ m, pre = told.take m ∧ m ≤ told.length) : KeepsFrom wL.heap.size W0 W ∧ True ∧ ChI F wL t b rowsOf told pre W :=
  ⟨h.kp, trivial, h.fr, hr ▸ h.ex, hs ▸ h.box, ht⟩
end
theorem ch_own {F : Nat → Prop} {wL : World} {t b : Nat} {rowsOf : List Row → List Row} {told : List Row} (hF : ∀ k, F k → k < wL.heap.size) : OwnFrom wL.heap.size (ChI F wL t b rowsOf told) := by
  rintro pre W W' row ⟨hfr, hex, hbox, ht⟩ hg hr
  have hgt := Turns.of_grown hg
  refine ⟨hfr.trans hgt (fun k _ e hF' => ?_), ex_keep hex hgt (fun k e => ?_), boxed_grown hbox hg (fun r e => (hr r e).2), ht⟩
  · have := (hr k e).1
    have := hF k hF'
    omega
  · obtain ⟨_, o, ho, hc⟩ := hr k e
    exact .inr (kind_cells ho hc)
theorem catK_snoc (l : List Row) (x : Row) : catK (l ++ [x]) = catK l ++ x.k := by
  unfold catK
  rw [List.foldl_append]
  rfl

theorem dn_small : ∀ pre, ∀ x ∈ dnR pre, x.k.size ≤ reachBytes := by
  intro pre x hx
  have h : x.k.size ≤ 1 := by
    unfold dnR at hx
    split at hx
    · simp only [rs2, List.mem_cons, List.not_mem_nil, or_false] at hx
      rcases hx with rfl | rfl | rfl <;> exact Nat.le_refl 1
    · simp only [rs3, List.mem_cons, List.not_mem_nil, or_false] at hx
      rcases hx with rfl | rfl | rfl | rfl <;> exact Nat.le_refl 1
  unfold reachBytes
  omega

end Tb
end Go.Proofs.Ytoglklldclgcbaa
