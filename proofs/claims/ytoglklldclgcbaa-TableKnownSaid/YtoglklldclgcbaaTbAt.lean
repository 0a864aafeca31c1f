/-
  A table whose blocks are told: contracts over closed sets of blocks.
-/
import Derived.Test.YtoglklldclgcbaaTbRefApply
import Derived.Test.YtoglklldclgcbaaTbKeys
namespace Go.Proofs.Ytoglklldclgcbaa
open Go.RowKit Sk
namespace Tb

structure At (P : Nat → Prop) (w : World) (t : Nat) (rows : List Row) : Prop where
  tab : Tab P w t rows
  lt : ∀ k, P k → k < w.heap.size
def made (a b k : Nat) : Prop := a ≤ k ∧ k < b
theorem At.keep {P S : Nat → Prop} {w w' : World} {t : Nat} {rows : List Row} (h : At P w t rows) (ht : Turns S w w') (hS : ∀ k, P k → ¬ S k) : At P w' t rows :=
  ⟨h.tab.keep ht (fun k hk _ => hS k hk), fun k hk => Nat.lt_of_lt_of_le (h.lt k hk) ht.size⟩
theorem At.below {P : Nat → Prop} {w w' : World} {t : Nat} {rows : List Row} (h : At P w t rows) (hb : Below w.heap.size w w') : At P w' t rows :=
  h.keep (S := fun _ => False) (Turns.of_below hb) fun _ _ h => h
theorem At.widen {P Q : Nat → Prop} {w : World} {t : Nat} {rows : List Row} (h : At P w t rows) (hq : ∀ k, P k → Q k) (hl : ∀ k, Q k → k < w.heap.size) : At Q w t rows :=
  ⟨h.tab.widen (fun k hk _ => hq k hk), hl⟩

theorem New_at (sd : Int) (w : World) :
    Calls Try.prog 12 #[.int .i64 sd] w fun e w' => ∃ t, e = .returned (TP t) ∧ At (made w.heap.size w'.heap.size) w' t [] ∧ Below w.heap.size w w' :=
  (New_tb sd w (fun k => w.heap.size ≤ k) (fun _ h => h)).mono fun _ _ ⟨t, he, ht, hb⟩ => ⟨t, he, ⟨ht.widen (fun _ hk hl => ⟨hk, hl⟩), fun _ hk => hk.2⟩, hb⟩

theorem Apply_at {P : Nat → Prop} {t : Nat} {rows : List Row} {w : World} (h : At P w t rows) {A : Option Addr} {len cap : Nat} {l : List Chg} (ho : Ops w A len cap l) (hA : ∀ g o, A = some ⟨g, o, none⟩ → l ≠ [] → ¬ P g) (hr : rows.length ≤ 900000) :
    Calls Try.prog 14 #[TP t, .slice A len cap] w fun e w' => e = .returned (.int .i64 (chkO l)) ∧ At (grew P w.heap.size w'.heap.size) w' t (appT l rows) ∧ Turns P w w' := by
  refine (Apply_tb (fun k => P k ∨ w.heap.size ≤ k) t rows A len cap l w (h.tab.widen (fun _ hk _ => .inl hk)) (fun _ hk => .inr hk) ho (fun g o hg hl hp => ?_) hr).mono fun _ w' ⟨he, ht, hturn⟩ => ⟨he, ⟨ht.widen (fun k hk hl => ?_), fun k hk => ?_⟩, hturn.mono (fun k hk hp => ?_)⟩
  · rcases hp with hp | hp
    · exact hA g o hg hl hp
    · cases l with
      | nil => exact hl rfl
      | cons x r =>
        obtain ⟨g', o', hg', c0, _, _⟩ := ho.cell 0 x rfl
        rw [hg] at hg'
        injection hg' with hg'
        injection hg' with e1 e2
        subst e1
        have := World.block_lt_of_cell? w _ c0
        exact absurd this (by simp; omega)
  · rcases hk with hk | hk
    · exact .inl hk
    · exact .inr ⟨hk, hl⟩
  · rcases hk with hk | hk
    · exact Nat.lt_of_lt_of_le (h.lt k hk) hturn.size
    · exact hk.2
  · rcases hp with hp | hp
    · exact hp
    · omega

/-- a change's cells -/
def opC (x : Chg) : List Value := [.string x.k, .string x.v, .bool x.d]
theorem opC_len (x : Chg) : (opC x).length = 3 := rfl
theorem ops_new (w : World) (T : TypeId) (l : List Chg) (cs : Array Value) (hcs : cs = (flat opC l).toArray) (n : Nat) (hn : n = l.length) :
    Ops (w.alloc (.cells cs T)) (some ⟨w.heap.size, 0, none⟩) n n l := by
  subst hn
  refine ⟨rfl, Nat.le_refl _, (fun h => by cases h), fun k x hx => ⟨_, 0, rfl, ?_⟩⟩
  have key : ∀ j u, j < 3 → (opC x)[j]? = some u → (w.alloc (.cells cs T)).cell? ⟨w.heap.size, 0 + k * 3 + j, none⟩ = some u := fun j u hj hu => by
    rw [World.cell?_alloc_new, hcs, Nat.zero_add]
    have := flat_get (f := opC) opC_len hx hj
    rw [← hu, ← this]
    simp
  exact ⟨key 0 _ (by omega) rfl, key 1 _ (by omega) rfl, key 2 _ (by omega) rfl⟩
theorem rws_new (w : World) (T : TypeId) (l : List Row) (cs : Array Value) (hcs : cs = (flat rcR l).toArray) (n : Nat) (hn : n = l.length) :
    Rws (w.alloc (.cells cs T)) (.slice (some ⟨w.heap.size, 0, none⟩) n n) l := by
  subst hn
  refine ⟨_, _, rfl, fun k x hx => ⟨_, 0, rfl, ?_⟩⟩
  have key : ∀ j u, j < 2 → (rcR x)[j]? = some u → (w.alloc (.cells cs T)).cell? ⟨w.heap.size, 0 + k * 2 + j, none⟩ = some u := fun j u hj hu => by
    rw [World.cell?_alloc_new, hcs, Nat.zero_add]
    have := flat_get (f := rcR) rcR_len hx hj
    rw [← hu, ← this]
    simp
  exact ⟨key 0 _ (by omega) rfl, key 1 _ (by omega) rfl⟩
theorem Rws.keep {w w' : World} {v : Value} {l : List Row} (h : Rws w v l) {S : Nat → Prop} (ht : Turns S w w') (hS : ∀ g, v.ownBlock = some g → l ≠ [] → ¬ S g) : Rws w' v l := by
  obtain ⟨A, c, rfl, hc⟩ := h
  refine ⟨A, c, rfl, fun k x hx => ?_⟩
  obtain ⟨g, o, rfl, c0, c1⟩ := hc k x hx
  have hb := ht.block g (World.block_lt_of_cell? w _ c0) (hS g rfl (fun e => by rw [e] at hx; cases hx))
  have hcc : ∀ j, w'.cell? ⟨g, j, none⟩ = w.cell? ⟨g, j, none⟩ := fun j => World.cell?_of_block (w := w) (a := ⟨g, j, none⟩) hb
  exact ⟨g, o, rfl, (hcc _).trans c0, (hcc _).trans c1⟩
theorem Rws.below {w w' : World} {v : Value} {l : List Row} (h : Rws w v l) (hb : Below w.heap.size w w') : Rws w' v l :=
  h.keep (S := fun _ => False) (Turns.of_below hb) fun _ _ _ h => h

end Tb
end Go.Proofs.Ytoglklldclgcbaa
