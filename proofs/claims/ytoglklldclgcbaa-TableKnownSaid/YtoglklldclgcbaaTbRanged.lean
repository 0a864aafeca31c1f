/-
  Walk: what the laws' 'ranged' gathers.
-/
import Derived.Test.YtoglklldclgcbaaTbRows
namespace Go.Proofs.Ytoglklldclgcbaa
open Go.RowKit Go.Shelf Sk
namespace Tb
attribute [local go_sem] Oper.semAt_some

theorem run_nf (fn : Fn) (cs : Array Value) (w : World) : Sem.run Try.prog (binOp BinOp.eql 49 (.func fn #[] cs) .nilFunc) w = .ok (.bool false) w := by kernel_rfl

/-- what the maker of an iterator has laid -/
structure Laid (w w' : World) (b t : Nat) (frm tt : ByteArray) : Prop where
  bel : Below w.heap.size w w'
  at0 : b = w.heap.size
  size : w'.heap.size = b + 3
  c0 : w'.cell? ⟨b, 0, none⟩ = some (TP t)
  c1 : w'.cell? ⟨b + 1, 0, none⟩ = some (.string frm)
  c2 : w'.cell? ⟨b + 2, 0, none⟩ = some (.string tt)
theorem laid_three (w : World) (t : Nat) (frm tt : ByteArray) : Laid w (((w.alloc (.cells #[TP t] 23)).alloc (.cells #[.string frm] 9)).alloc (.cells #[.string tt] 9)) w.heap.size t frm tt :=
  ⟨(((Below.refl _ w).alloc (Nat.le_refl _) _).alloc (by simp) _).alloc (by simp; omega) _, rfl, by simp, by go_simp, by go_simp, by go_simp⟩
theorem All_tbx (t : Nat) (frm tt : ByteArray) (w : World) :
    Calls Try.prog 26 #[TP t, .string frm, .string tt] w fun e w' => ∃ b, e = .returned (.func (.func 43) #[] #[.pointer (some ⟨b, 0, none⟩), .pointer (some ⟨b + 1, 0, none⟩), .pointer (some ⟨b + 2, 0, none⟩)]) ∧ Laid w w' b t frm tt :=
  (All_tb t frm tt w).mono fun _ _ ⟨he, hw⟩ => ⟨_, he, by rw [hw]; exact laid_three w t frm tt⟩
theorem Back_tbx (t : Nat) (frm tt : ByteArray) (w : World) :
    Calls Try.prog 29 #[TP t, .string frm, .string tt] w fun e w' => ∃ b, e = .returned (.func (.func 45) #[] #[.pointer (some ⟨b, 0, none⟩), .pointer (some ⟨b + 2, 0, none⟩), .pointer (some ⟨b + 1, 0, none⟩)]) ∧ Laid w w' b t frm tt :=
  (Back_tb t frm tt w).mono fun _ _ ⟨he, hw⟩ => ⟨_, he, by rw [hw]; exact laid_three w t frm tt⟩

set_option maxRecDepth 100000 in
set_option maxHeartbeats 2000000 in
theorem ranged_all (P : Nat → Prop) (t : Nat) (frm tt : ByteArray) (rows : List Row) (w : World) (h : Tab P w t rows) (hk : ∀ x ∈ rows, x.k.size ≤ reachBytes) (hr : rows.length ≤ 1000000) :
    Calls Try.prog 24 #[TP t, .string frm, .string tt, .bool false] w fun e w' => ∃ v, e = .returned v ∧ w'.ownsRow w.heap.size 39 2 v (flt frm tt rows).length (flat rcR (flt frm tt rows)) ∧ Below w.heap.size w w' := by
  obtain ⟨i0, hi0, hz0, hz1, hz2⟩ := info_parts row_info
  have HI := Lib.hid (And.intro hi0 (And.intro hz0 (And.intro hz1 hz2)))
  clear hi0 hz0 hz1 hz2
  have hrun := run_nf
  refine (callsIn_wide (n := 5)).1 ?_
  refine callsIn_of_wp_marks Try.func24 rfl trivial ?_ rfl
  simp only [Try.ntmps24, List.size_toArray, List.length_cons, List.length_nil, Nat.reduceAdd, Nat.reduceSub, Array.replicate_succ, Array.replicate_zero, List.push_toArray, List.append_toArray, List.nil_append, List.cons_append]
  have HA1 := callsIn_wide (n := 4).2 (All_tbx t frm tt w)
  have HA2 := fun W1 => callsIn_wide (n := 4).2 (Back_tbx t frm tt W1)
  have HA3 := fun W1 => callsIn_wide (n := 4).2 (All_tbx t frm tt W1)
  gi_wp2_with (first
    | (refine ⟨trivial, ?_⟩; gi_at_call 26; refine HA1.mono ?_; clear HA1; rintro e W1 ⟨b1, rfl, h1⟩; have H1 := Lib.hid h1; clear h1)
    | (refine ⟨trivial, ?_⟩; gi_at_call 29; refine (HA2 _).mono ?_; clear HA2; rintro e W2 ⟨b2, rfl, h2⟩; have H2 := Lib.hid h2; clear h2)
    | (refine ⟨trivial, ?_⟩; gi_at_call 26; refine (HA3 _).mono ?_; clear HA3; rintro e W3 ⟨b3, rfl, h3⟩; have H3 := Lib.hid h3; clear h3))
  obtain ⟨s, hs⟩ : ∃ s, W2.heap.size = s := ⟨_, rfl⟩
  have bO : Boxed (W2.alloc (.cells #[.slice none 0 0] 33)) s 33 (.slice none 0 0) := by rw [← hs]; exact Boxed.new W2 _ _
  have hb3 : b3 = s + 1 := by rw [H3.out.at0, ← hs]; simp
  have hz3 : W3.heap.size = s + 4 := by rw [H3.out.size, hb3]
  have bO3 : Boxed W3 s 33 (.slice none 0 0) := (H3.out.bel.block s (by rw [← hs]; simp)).trans bO
  have hws : w.heap.size ≤ s := by have := H1.out.bel.size; have := H2.out.bel.size; omega
  have hbW : Below w.heap.size w W3 := (H1.out.bel.trans (H2.out.bel.mono H1.out.bel.size)).trans (((Below.refl _ W2).alloc (by rw [hs]; exact hws) _).trans (H3.out.bel.mono (by simp; omega)))
  have HT := Lib.hid ((h.widen (Q := fun k => P k ∧ k < w.heap.size) (fun k hk hl => ⟨hk, hl⟩)).below hbW)
  have hst := All_stops 4 (by omega) b3 (b3 + 1) (b3 + 2) t (fun k => k = s ∨ s + 4 ≤ k) frm tt _ rows W3 HT.out (fun k hk _ e => by rcases e with e | e <;> omega) H3.out.c0 H3.out.c1 H3.out.c2 (by omega) (by omega) (by omega) hk
  rw [btw_flt h.srt] at hst
  have hfl : (flt frm tt rows).length ≤ rows.length := List.length_filter_le _ _
  rw [hs]
  clear hs bO hb3
  refine wpIn_rangeFunc_ownF rfl (by omega) (gf := 43) (lb := #[.pointer (some ⟨b3, 0, none⟩), .pointer (some ⟨b3 + 1, 0, none⟩), .pointer (some ⟨b3 + 2, 0, none⟩)]) rfl trivial (enters_of Try.func43 (by kernel_rfl) rfl)
    hst turnsK_t (turnsK_b (fun l hl => .inr (by omega))) (Below.refl _ _) (fun _ => rfl)
    (GatherI s (s + 4) w) (fun _ _ _ => False) (gather_own _ _ _ w (by omega)) (fun _ _ _ _ _ hs _ _ => hs)
    ⟨⟨_, bO3, World.ownsRow_nil _ _ _ _, trivial⟩, hbW, by omega⟩
    (fun x => { tmps := #[TP t, .string frm, .string tt, .bool false, undef, undef, undef, undef, .slice none 0 0, .pointer (some ⟨s, 0, none⟩), undef, undef, .string x.k, .string x.v, TP t, .string frm, .string tt, .func (.func 43) #[] #[.pointer (some ⟨b1, 0, none⟩), .pointer (some ⟨b1 + 1, 0, none⟩), .pointer (some ⟨b1 + 2, 0, none⟩)], .bool false, .bool false, TP t, .string frm, .string tt, .func (.func 45) #[] #[.pointer (some ⟨b2, 0, none⟩), .pointer (some ⟨b2 + 2, 0, none⟩), .pointer (some ⟨b2 + 1, 0, none⟩)], .bool false, .bool false, .bool false, undef, undef, undef, undef, undef, undef, undef, undef, undef, undef, undef, undef, undef, TP t, .string frm, .string tt, .func (.func 43) #[] #[.pointer (some ⟨b3, 0, none⟩), .pointer (some ⟨b3 + 1, 0, none⟩), .pointer (some ⟨b3 + 2, 0, none⟩)], .string x.k, .string x.v, undef, undef, undef, undef, undef, undef, undef], defers := [] }) ?assign ?body ?done ?stop
  case assign =>
    intro l x W K hK
    unfold encs
    gi_wp2
    exact hK
  case body =>
    rintro l pre x W ⟨⟨v, hv, hrow, _⟩, hB, hWs⟩ hlt
    have hc := hv.cell
    gi_wp2_with (gi_at_builtin; refine wpListIn_append_own _ rfl _ _ 33 rfl (s + 4) 39 i0 _ 2 32 Try.underlying33 HI.out.1 HI.out.2.1 HI.out.2.2.1 HI.out.2.2.2 rfl (by decide) _ _ _ rfl (hrow.alloc _) ⟨W.heap.size, 0, none⟩ 1 1 (rcR x) rfl rfl ?h1 (rcR_one x) ?h2 ?h3 ?h4 ?_)
    case h1 => intro j u hj; rw [addr_add, Nat.zero_add, World.cell?_alloc_new]; simpa [rcR] using hj
    case h2 => unfold maxLen; omega
    case h3 => omega
    case h4 => simp; omega
    intro v' w1 hown' hgrow _
    obtain ⟨g', cap', rfl⟩ := ownsRow_succ hown'
    have HG := Lib.hid (gather_next hws (by omega) hv hrow hB hWs hown' hgrow)
    have hv1 := ((hv.alloc _).kept hgrow (hv.not_row (by decide) hrow)).cell
    have hf1 := ((hv.alloc _).kept hgrow (hv.not_row (by decide) hrow)).frozen
    clear hown' hgrow
    gi_wp2
    exact HG.out
  case done =>
    rintro D ys W hD rfl ⟨⟨v, hv, hrow, _⟩, hB, _⟩ hK
    have hc := hv.cell
    gi_wp2
    refine ⟨by simp, .inl ⟨_, _, rfl, run_takeDeferred hK, ?_⟩⟩
    exact ⟨_, results_tmp rfl _ _ _, v, rfl, owns_mono (ownsRow_putObj hrow _ hK rfl) (by omega), hB.trans (belowK_b (w := w) (Nat.le_refl _) W D _ _ (by omega) hK rfl rfl)⟩
  case stop =>
    rintro D c pre W _ _ h _
    exact h.elim

set_option maxRecDepth 100000 in
set_option maxHeartbeats 2000000 in
theorem ranged_back (P : Nat → Prop) (t : Nat) (frm tt : ByteArray) (rows : List Row) (w : World) (h : Tab P w t rows) (hne : ∀ x ∈ rows, x.k ≠ ⟨#[]⟩) (hr : rows.length ≤ 1000000) :
    Calls Try.prog 24 #[TP t, .string frm, .string tt, .bool true] w fun e w' => ∃ v, e = .returned v ∧ w'.ownsRow w.heap.size 39 2 v (flt frm tt rows).reverse.length (flat rcR (flt frm tt rows).reverse) ∧ Below w.heap.size w w' := by
  obtain ⟨i0, hi0, hz0, hz1, hz2⟩ := info_parts row_info
  have HI := Lib.hid (And.intro hi0 (And.intro hz0 (And.intro hz1 hz2)))
  clear hi0 hz0 hz1 hz2
  have hrun := run_nf
  refine (callsIn_wide (n := 5)).1 ?_
  refine callsIn_of_wp_marks Try.func24 rfl trivial ?_ rfl
  simp only [Try.ntmps24, List.size_toArray, List.length_cons, List.length_nil, Nat.reduceAdd, Nat.reduceSub, Array.replicate_succ, Array.replicate_zero, List.push_toArray, List.append_toArray, List.nil_append, List.cons_append]
  have HA1 := callsIn_wide (n := 4).2 (All_tbx t frm tt w)
  have HA2 := fun W1 => callsIn_wide (n := 4).2 (Back_tbx t frm tt W1)
  have HA3 := fun W1 => callsIn_wide (n := 4).2 (Back_tbx t frm tt W1)
  gi_wp2_with (first
    | (refine ⟨trivial, ?_⟩; gi_at_call 26; refine HA1.mono ?_; clear HA1; rintro e W1 ⟨b1, rfl, h1⟩; have H1 := Lib.hid h1; clear h1)
    | (refine ⟨trivial, ?_⟩; gi_at_call 29; refine (HA2 _).mono ?_; clear HA2; rintro e W2 ⟨b2, rfl, h2⟩; have H2 := Lib.hid h2; clear h2)
    | (refine ⟨trivial, ?_⟩; gi_at_call 29; refine (HA3 _).mono ?_; clear HA3; rintro e W3 ⟨b3, rfl, h3⟩; have H3 := Lib.hid h3; clear h3))
  obtain ⟨s, hs⟩ : ∃ s, W2.heap.size = s := ⟨_, rfl⟩
  have bO : Boxed (W2.alloc (.cells #[.slice none 0 0] 33)) s 33 (.slice none 0 0) := by rw [← hs]; exact Boxed.new W2 _ _
  have hb3 : b3 = s + 1 := by rw [H3.out.at0, ← hs]; simp
  have hz3 : W3.heap.size = s + 4 := by rw [H3.out.size, hb3]
  have bO3 : Boxed W3 s 33 (.slice none 0 0) := (H3.out.bel.block s (by rw [← hs]; simp)).trans bO
  have hws : w.heap.size ≤ s := by have := H1.out.bel.size; have := H2.out.bel.size; omega
  have hbW : Below w.heap.size w W3 := (H1.out.bel.trans (H2.out.bel.mono H1.out.bel.size)).trans (((Below.refl _ W2).alloc (by rw [hs]; exact hws) _).trans (H3.out.bel.mono (by simp; omega)))
  have HT := Lib.hid ((h.widen (Q := fun k => P k ∧ k < w.heap.size) (fun k hk hl => ⟨hk, hl⟩)).below hbW)
  have hst := Back_stops 4 (by omega) b3 (b3 + 1) (b3 + 2) t (fun k => k = s ∨ s + 4 ≤ k) frm tt _ rows W3 HT.out (fun k hk _ e => by rcases e with e | e <;> omega) H3.out.c0 H3.out.c1 H3.out.c2 (by omega) (by omega) (by omega) hne
  have hfl : (flt frm tt rows).reverse.length ≤ rows.length := by rw [List.length_reverse]; exact List.length_filter_le _ _
  rw [hs]
  clear hs bO hb3
  refine wpIn_rangeFunc_ownF rfl (by omega) (gf := 45) (lb := #[.pointer (some ⟨b3, 0, none⟩), .pointer (some ⟨b3 + 2, 0, none⟩), .pointer (some ⟨b3 + 1, 0, none⟩)]) rfl trivial (enters_of Try.func45 (by kernel_rfl) rfl)
    hst turnsK_t (turnsK_b (fun l hl => .inr (by omega))) (Below.refl _ _) (fun _ => rfl)
    (GatherI s (s + 4) w) (fun _ _ _ => False) (gather_own _ _ _ w (by omega)) (fun _ _ _ _ _ hs _ _ => hs)
    ⟨⟨_, bO3, World.ownsRow_nil _ _ _ _, trivial⟩, hbW, by omega⟩
    (fun x => { tmps := #[TP t, .string frm, .string tt, .bool true, undef, undef, undef, undef, .slice none 0 0, .pointer (some ⟨s, 0, none⟩), .string x.k, .string x.v, undef, undef, TP t, .string frm, .string tt, .func (.func 43) #[] #[.pointer (some ⟨b1, 0, none⟩), .pointer (some ⟨b1 + 1, 0, none⟩), .pointer (some ⟨b1 + 2, 0, none⟩)], .bool false, .bool false, TP t, .string frm, .string tt, .func (.func 45) #[] #[.pointer (some ⟨b2, 0, none⟩), .pointer (some ⟨b2 + 2, 0, none⟩), .pointer (some ⟨b2 + 1, 0, none⟩)], .bool false, .bool false, .bool true, TP t, .string frm, .string tt, .func (.func 45) #[] #[.pointer (some ⟨b3, 0, none⟩), .pointer (some ⟨b3 + 2, 0, none⟩), .pointer (some ⟨b3 + 1, 0, none⟩)], .string x.k, .string x.v, undef, undef, undef, undef, undef, undef, undef, undef, undef, undef, undef, undef, undef, undef, undef, undef, undef, undef, undef, undef], defers := [] }) ?assign ?body ?done ?stop
  case assign =>
    intro l x W K hK
    unfold encs
    gi_wp2
    exact hK
  case body =>
    rintro l pre x W ⟨⟨v, hv, hrow, _⟩, hB, hWs⟩ hlt
    have hc := hv.cell
    gi_wp2_with (gi_at_builtin; refine wpListIn_append_own _ rfl _ _ 33 rfl (s + 4) 39 i0 _ 2 32 Try.underlying33 HI.out.1 HI.out.2.1 HI.out.2.2.1 HI.out.2.2.2 rfl (by decide) _ _ _ rfl (hrow.alloc _) ⟨W.heap.size, 0, none⟩ 1 1 (rcR x) rfl rfl ?h1 (rcR_one x) ?h2 ?h3 ?h4 ?_)
    case h1 => intro j u hj; rw [addr_add, Nat.zero_add, World.cell?_alloc_new]; simpa [rcR] using hj
    case h2 => unfold maxLen; omega
    case h3 => omega
    case h4 => simp; omega
    intro v' w1 hown' hgrow _
    obtain ⟨g', cap', rfl⟩ := ownsRow_succ hown'
    have HG := Lib.hid (gather_next hws (by omega) hv hrow hB hWs hown' hgrow)
    have hv1 := ((hv.alloc _).kept hgrow (hv.not_row (by decide) hrow)).cell
    have hf1 := ((hv.alloc _).kept hgrow (hv.not_row (by decide) hrow)).frozen
    clear hown' hgrow
    gi_wp2
    exact HG.out
  case done =>
    rintro D ys W hD rfl ⟨⟨v, hv, hrow, _⟩, hB, _⟩ hK
    have hc := hv.cell
    gi_wp2
    refine ⟨by simp, .inl ⟨_, _, rfl, run_takeDeferred hK, ?_⟩⟩
    exact ⟨_, results_tmp rfl _ _ _, v, rfl, owns_mono (ownsRow_putObj hrow _ hK rfl) (by omega), hB.trans (belowK_b (w := w) (Nat.le_refl _) W D _ _ (by omega) hK rfl rfl)⟩
  case stop =>
    rintro D c pre W _ _ h _
    exact h.elim

end Tb
end Go.Proofs.Ytoglklldclgcbaa
