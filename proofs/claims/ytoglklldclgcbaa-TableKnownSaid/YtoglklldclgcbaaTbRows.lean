/-
  Walk: a table's Rows.
-/
import Derived.Test.YtoglklldclgcbaaTbStops
import Derived.Maps.AppendAt
import Derived.RangeFuncBox
namespace Go.Proofs.Ytoglklldclgcbaa
open Go.RowKit Go.Shelf Sk
namespace Tb
attribute [local go_sem] Oper.semAt_some

def rcR (x : Row) : List Value := [.string x.k, .string x.v]
theorem rcR_len (x : Row) : (rcR x).length = 2 := rfl
theorem rcR_one : ∀ x : Row, ∀ u ∈ rcR x, u.oneCell' = true := by
  intro x u hu
  simp only [rcR, List.mem_cons, List.not_mem_nil, or_false] at hu
  rcases hu with rfl | rfl <;> rfl
theorem row_info : (Try.prog.info? 39).map (fun i => (i.zero, i.size, i.bytes)) = some (some (.agg #[.string ⟨#[]⟩, .string ⟨#[]⟩]), 2, 32) := by kernel_rfl

/-- the rows that have come lie in a slice of the loop's own, and its box holds it -/
def GatherI (s n₀ : Nat) (w : World) (pre : List Row) (W : World) : Prop := (∃ v, Boxed W s 33 v ∧ W.ownsRow n₀ 39 2 v pre.length (flat rcR pre) ∧ True) ∧ Below w.heap.size w W ∧ n₀ ≤ W.heap.size
theorem gather_own (s n₀ B : Nat) (w : World) (hB : w.heap.size ≤ B) : OwnFrom B (GatherI s n₀ w) :=
  OwnFrom.and (Own.from (holdsRow_own n₀ s 33 39 2 (fun pre => pre.length) (fun pre => flat rcR pre) (fun _ _ => True)) _) (OwnFrom.and (ownFrom_below (Nat.le_refl _) hB) (fun _ _ _ _ hs hg _ => Nat.le_trans hs hg.size))
theorem gather_next {s n₀ : Nat} {w W w1 : World} {pre : List Row} {x : Row} {v v' : Value} {tmp : Obj} (hs : w.heap.size ≤ s) (hsn : s < n₀) (hv : Boxed W s 33 v) (hrow : W.ownsRow n₀ 39 2 v pre.length (flat rcR pre)) (hB : Below w.heap.size w W) (hn : n₀ ≤ W.heap.size)
    (hown : w1.ownsRow n₀ 39 2 v' (pre.length + 1) (flat rcR pre ++ rcR x)) (hg : (W.alloc tmp).grownBy w1 v.ownBlock) :
    KeepsOthers W (w1.setCell ⟨s, 0, none⟩ v') ∧ Turns (fun k => k = s ∨ n₀ ≤ k) W (w1.setCell ⟨s, 0, none⟩ v') ∧ GatherI s n₀ w (pre ++ [x]) (w1.setCell ⟨s, 0, none⟩ v') := by
  have hsW : s ≤ W.heap.size := Nat.le_trans (Nat.le_of_lt hsn) hn
  obtain ⟨_, h2, _, h4, h5⟩ := Boxed.appended (n₀ := s) hv (by decide) (owns_mono hrow (Nat.le_of_lt hsn)) hsW (Nat.le_refl _) (owns_mono hown (Nat.le_of_lt hsn)) hg
  have ht : Turns (fun k => k = s ∨ n₀ ≤ k) W (w1.setCell ⟨s, 0, none⟩ v') :=
    ((((Turns.refl _ W).alloc tmp).trans (Turns.of_grown hg) (fun k _ e => .inr (hrow.lt k e).1))).setCell (p := ⟨s, 0, none⟩) (fun _ => .inl rfl) v'
  have hrow2 : (w1.setCell ⟨s, 0, none⟩ v').ownsRow n₀ 39 2 v' (pre.length + 1) (flat rcR pre ++ rcR x) :=
    owns_keep hown (S := fun k => k = s) (Turns.setCell (S := fun k => k = s) (Turns.refl _ w1) (p := ⟨s, 0, none⟩) (fun _ => rfl) v') (fun g hg' e => by have := (hown.lt g hg').1; omega)
  refine ⟨h4, ht, ⟨v', h2, ?_, trivial⟩, hB.trans (h5.mono hs), Nat.le_trans hn ht.size⟩
  rw [List.length_append, flat_append]
  simpa [flat] using hrow2

set_option maxRecDepth 100000 in
set_option maxHeartbeats 2000000 in
theorem Rows_tb (P : Nat → Prop) (t : Nat) (rows : List Row) (w : World) (h : Tab P w t rows) (hk : ∀ x ∈ rows, x.k.size ≤ reachBytes) (hr : rows.length ≤ 1000000) :
    Calls Try.prog 18 #[TP t] w fun e w' => ∃ v, e = .returned v ∧ w'.ownsRow w.heap.size 39 2 v rows.length (flat rcR rows) ∧ Below w.heap.size w w' := by
  obtain ⟨i0, hi0, hz0, hz1, hz2⟩ := info_parts row_info
  have HI := Lib.hid (And.intro hi0 (And.intro hz0 (And.intro hz1 hz2)))
  clear hi0 hz0 hz1 hz2
  refine (callsIn_wide (n := 5)).1 ?_
  refine callsIn_of_wp_marks Try.func18 rfl trivial ?_ rfl
  simp only [Try.ntmps18, List.size_toArray, List.length_cons, List.length_nil, Nat.reduceAdd, Nat.reduceSub, Array.replicate_succ, Array.replicate_zero, List.push_toArray, List.append_toArray, List.nil_append, List.cons_append]
  gi_wp2_with (refine ⟨trivial, ?_⟩; gi_at_call 26; refine (callsIn_wide.2 (All_tb t ⟨#[]⟩ ⟨#[]⟩ _)).mono ?_; rintro e w' ⟨rfl, rfl⟩)
  have bO := Boxed.new w 33 (.slice none 0 0)
  have hbW : Below w.heap.size w ((((w.alloc (.cells #[.slice none 0 0] 33)).alloc (.cells #[TP t] 23)).alloc (.cells #[.string ⟨#[]⟩] 9)).alloc (.cells #[.string ⟨#[]⟩] 9)) := ((((Below.refl _ w).alloc (Nat.le_refl _) _).alloc (by simp) _).alloc (by simp; omega) _).alloc (by simp; omega) _
  have hsz : ((((w.alloc (.cells #[.slice none 0 0] 33)).alloc (.cells #[TP t] 23)).alloc (.cells #[.string ⟨#[]⟩] 9)).alloc (.cells #[.string ⟨#[]⟩] 9)).heap.size = w.heap.size + 4 := by simp
  have bO2 : Boxed ((((w.alloc (.cells #[.slice none 0 0] 33)).alloc (.cells #[TP t] 23)).alloc (.cells #[.string ⟨#[]⟩] 9)).alloc (.cells #[.string ⟨#[]⟩] 9)) w.heap.size 33 (.slice none 0 0) := ((bO.alloc _).alloc _).alloc _
  have k1 : ((((w.alloc (.cells #[.slice none 0 0] 33)).alloc (.cells #[TP t] 23)).alloc (.cells #[.string ⟨#[]⟩] 9)).alloc (.cells #[.string ⟨#[]⟩] 9)).cell? ⟨w.heap.size + 1, 0, none⟩ = some (TP t) := by go_simp
  have k2 : ((((w.alloc (.cells #[.slice none 0 0] 33)).alloc (.cells #[TP t] 23)).alloc (.cells #[.string ⟨#[]⟩] 9)).alloc (.cells #[.string ⟨#[]⟩] 9)).cell? ⟨w.heap.size + 1 + 1, 0, none⟩ = some (.string ⟨#[]⟩) := by go_simp
  have k3 : ((((w.alloc (.cells #[.slice none 0 0] 33)).alloc (.cells #[TP t] 23)).alloc (.cells #[.string ⟨#[]⟩] 9)).alloc (.cells #[.string ⟨#[]⟩] 9)).cell? ⟨w.heap.size + 1 + 2, 0, none⟩ = some (.string ⟨#[]⟩) := by go_simp
  obtain ⟨W0, hW0⟩ : ∃ W0, ((((w.alloc (.cells #[.slice none 0 0] 33)).alloc (.cells #[TP t] 23)).alloc (.cells #[.string ⟨#[]⟩] 9)).alloc (.cells #[.string ⟨#[]⟩] 9)) = W0 := ⟨_, rfl⟩
  rw [hW0] at hbW hsz bO2 k1 k2 k3
  have hall : btw ⟨#[]⟩ ⟨#[]⟩ rows = rows := by
    rw [btw_flt h.srt]
    unfold flt
    rw [List.filter_eq_self]
    intro x _
    have : belowT ⟨#[]⟩ x = true := by unfold belowT; rw [nil_list]; rfl
    rw [kl_nil, this]
    rfl
  rw [hW0]
  clear hW0 bO
  have HT := Lib.hid ((h.widen (Q := fun k => P k ∧ k < w.heap.size) (fun k hk hl => ⟨hk, hl⟩)).below hbW)
  have hst := All_stops 4 (by omega) (w.heap.size + 1) (w.heap.size + 1 + 1) (w.heap.size + 1 + 2) t (fun k => k = w.heap.size ∨ w.heap.size + 4 ≤ k) ⟨#[]⟩ ⟨#[]⟩ _ rows W0 HT.out (fun k hk _ e => by rcases e with e | e <;> omega) k1 k2 k3 (by omega) (by omega) (by omega) hk
  rw [hall] at hst
  refine wpIn_rangeFunc_ownF rfl (by omega) (gf := 43) (lb := #[.pointer (some ⟨w.heap.size + 1, 0, none⟩), .pointer (some ⟨w.heap.size + 1 + 1, 0, none⟩), .pointer (some ⟨w.heap.size + 1 + 2, 0, none⟩)]) rfl trivial (enters_of Try.func43 (by kernel_rfl) rfl)
    hst turnsK_t (turnsK_b (fun l hl => .inr (by omega))) (Below.refl _ _) (fun _ => rfl)
    (GatherI w.heap.size (w.heap.size + 4) w) (fun _ _ _ => False) (gather_own _ _ _ w (by omega)) (fun _ _ _ _ _ hs _ _ => hs)
    ⟨⟨_, bO2, World.ownsRow_nil _ _ _ _, trivial⟩, hbW, by omega⟩
    (fun x => { tmps := #[TP t, undef, .slice none 0 0, .pointer (some ⟨w.heap.size, 0, none⟩), .string x.k, .string x.v, TP t, .func (.func 43) #[] #[.pointer (some ⟨w.heap.size + 1, 0, none⟩), .pointer (some ⟨w.heap.size + 1 + 1, 0, none⟩), .pointer (some ⟨w.heap.size + 1 + 2, 0, none⟩)], .string x.k, .string x.v, undef, undef, undef, undef, undef, undef, undef], defers := [] }) ?assign ?body ?done ?stop
  case assign =>
    intro l x W K hK
    unfold encs
    gi_wp2
    exact hK
  case body =>
    rintro l pre x W ⟨⟨v, hv, hrow, _⟩, hB, hWs⟩ hlt
    have hc := hv.cell
    gi_wp2_with (gi_at_builtin; refine wpListIn_append_own _ rfl _ _ 33 rfl (w.heap.size + 4) 39 i0 _ 2 32 Try.underlying33 HI.out.1 HI.out.2.1 HI.out.2.2.1 HI.out.2.2.2 rfl (by decide) _ _ _ rfl (hrow.alloc _) ⟨W.heap.size, 0, none⟩ 1 1 (rcR x) rfl rfl ?h1 (rcR_one x) ?h2 ?h3 ?h4 ?_)
    case h1 => intro j u hj; rw [addr_add, Nat.zero_add, World.cell?_alloc_new]; simpa [rcR] using hj
    case h2 => unfold maxLen; omega
    case h3 => omega
    case h4 => simp; omega
    intro v' w1 hown' hgrow _
    obtain ⟨g', cap', rfl⟩ := ownsRow_succ hown'
    have HG := Lib.hid (gather_next (Nat.le_refl _) (by omega) hv hrow hB hWs hown' hgrow)
    have hv1 := ((hv.alloc _).kept hgrow (hv.not_row (by decide) hrow)).cell
    have hf1 := ((hv.alloc _).kept hgrow (hv.not_row (by decide) hrow)).frozen
    clear hown' hgrow
    gi_wp2
    exact HG.out
  case done =>
    rintro D ys W hD rfl ⟨⟨v, hv, hrow, _⟩, hB, _⟩ hK
    have hc := hv.cell
    gi_wp2
    refine ⟨by simp, .inl ⟨_, _, rfl, run_takeDeferred hK, ?_⟩⟩
    exact ⟨_, results_tmp rfl _ _ _, v, rfl, owns_mono (ownsRow_putObj hrow _ hK rfl) (by omega), hB.trans (belowK_b (w := w) (Nat.le_refl _) W D _ _ (by omega) hK rfl rfl)⟩
  case stop =>
    rintro D c pre W _ _ h _
    exact h.elim

end Tb
end Go.Proofs.Ytoglklldclgcbaa
