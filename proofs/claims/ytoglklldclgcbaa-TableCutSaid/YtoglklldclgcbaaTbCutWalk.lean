/-
  Walk: the law TableCut.
-/
import Derived.Test.YtoglklldclgcbaaTbSeedsWalk
namespace Go.Proofs.Ytoglklldclgcbaa
open Go.RowKit Sk
namespace Tb

theorem flt_two {α : Type} {a b c : α → Bool} : ∀ {l : List α}, l.Pairwise (fun x y => b x = true → a y = false) → (∀ x, c x = (a x || b x)) → (∀ x, a x = true → b x = false) → l.filter a ++ l.filter b = l.filter c
  | [], _, _, _ => rfl
  | x :: l, h, hc, hd => by
    obtain ⟨h1, h2⟩ := List.pairwise_cons.1 h
    have ih := flt_two h2 hc hd
    have hcx := hc x
    cases ha : a x with
    | true =>
      have hb := hd x ha
      rw [ha, hb] at hcx
      rw [List.filter_cons, List.filter_cons, List.filter_cons, ha, hb, hcx]
      simp only [Bool.true_or, if_true, Bool.false_eq_true, if_false, List.cons_append]
      rw [ih]
    | false =>
      cases hb : b x with
      | true =>
        rw [ha, hb] at hcx
        have hn : l.filter a = [] := List.filter_eq_nil_iff.2 fun y hy => by rw [h1 y hy hb]; simp
        rw [hn, List.nil_append] at ih
        rw [List.filter_cons, List.filter_cons, List.filter_cons, ha, hb, hcx]
        simp only [Bool.false_or, if_true, Bool.false_eq_true, if_false, hn, List.nil_append]
        rw [ih]
      | false =>
        rw [ha, hb] at hcx
        rw [List.filter_cons, List.filter_cons, List.filter_cons, ha, hb, hcx]
        simpa using ih
theorem cut_rows {rows : List Row} (hs : Srt Row.k rows) {frm mid : ByteArray} (h1 : kl mid frm = false) (h2 : mid ≠ ⟨#[]⟩) : flt frm mid rows ++ flt mid ⟨#[]⟩ rows = flt frm ⟨#[]⟩ rows := by
  have e1 : mid.toList.isEmpty = false := by
    cases e : mid.toList with
    | nil => exact absurd (toList_inj (by rw [e, nil_list])) h2
    | cons x r => rfl
  have e2 : ∀ x : Row, belowT ⟨#[]⟩ x = true := fun x => by unfold belowT; rw [nil_list]; rfl
  have e3 : ∀ x : Row, belowT mid x = kl x.k mid := fun x => by unfold belowT; rw [e1]; rfl
  unfold flt
  refine flt_two (List.Pairwise.imp (fun {x y} h hb => ?_) hs) (fun x => ?_) (fun x ha => ?_)
  · rw [e2, Bool.and_true, Bool.not_eq_true'] at hb
    rw [e3]
    cases e : kl y.k mid with
    | false => rw [Bool.and_false]
    | true => rw [kl_trans h e] at hb; cases hb
  · simp only [e2, e3, Bool.and_true]
    cases e : kl x.k mid with
    | true => simp
    | false =>
      have : kl x.k frm = false := by
        cases e4 : kl x.k frm with
        | false => rfl
        | true =>
          cases e5 : kl mid x.k with
          | true => rw [kl_trans e5 e4] at h1; cases h1
          | false => rw [kl_total e5 e, e4] at h1; cases h1
      rw [this]
      simp
  · rw [e3, Bool.and_eq_true] at ha
    rw [ha.2]
    rfl

set_option maxRecDepth 100000 in
set_option maxHeartbeats 4000000 in
theorem cut_walk (A : Option Addr) (len cap : Nat) (ls : List (List Chg)) (frm mid : ByteArray) (w : World) (hb : Bts w A len cap ls) (hf : ∀ l ∈ ls, ∀ o ∈ l, Chg.Fine o) (hk : ∀ l ∈ ls, ∀ o ∈ l, o.k.size ≤ reachBytes) :
    Calls Try.prog 8 #[.slice A len cap, .string frm, .string mid] w fun e w' => e = .returned (.bool true) ∧ Below w.heap.size w w' := by
  obtain ⟨i0, hi0, hz0, hz1, hz2⟩ := info_parts row_info
  have HI := Lib.hid (And.intro hi0 (And.intro hz0 (And.intro hz1 hz2)))
  have HB := Lib.hid (And.intro hb hf)
  have HR := Lib.hid (min_rows ls (min len 30) (Nat.min_le_right _ _) hk)
  clear hb hf hk hi0 hz0 hz1 hz2
  go_enter Try.func8, Try.ntmps8
  go_wp2_with fail
  refine (works_any w).mono ?_
  rintro e w1 ⟨rfl, hb1⟩
  have H1 := Lib.hid hb1
  clear hb1
  go_wp2_with fail
  refine (made_any A len cap ls 5 w1 (HB.out.1.below H1.out) HB.out.2).mono ?_
  rintro e w2 ⟨t, b, rfl, htm, hb2⟩
  have HTR := HR.out
  generalize tRows ls (min len 30) = rs at *
  obtain ⟨P, hP⟩ := htm.tab
  have HL : Hid (∀ f m : ByteArray, (flt f m rs).length ≤ 3840) := fun f m => Nat.le_trans (List.length_filter_le _ _) HTR.2.2
  have HS := Lib.hid hP.tab.srt
  have H2 := Lib.hid (And.intro (H1.out.trans (hb2.mono H1.out.size)) hP)
  have HR2 := Lib.hid HTR
  clear htm hb2 hP H1 HTR HR
  go_wp2_with fail
  refine (ranged_all P t frm ⟨#[]⟩ rs w2 H2.out.2.tab HR2.out.1 (Nat.le_trans HR2.out.2.2 (by omega))).mono ?_
  rintro e w3 ⟨v3, rfl, hown, hb⟩
  have H3 := Lib.hid (And.intro (H2.out.1.trans (hb.mono H2.out.1.size)) (And.intro (H2.out.2.below hb) (Rws.of_owns hown)))
  have HW3 := Lib.hid (show ∀ g, v3.ownBlock = some g → g < w3.heap.size from fun g hg => (hown.lt g hg).2)
  clear hb hown H2
  go_wp2_with fail
  refine (turned_any v3 _ w3 H3.out.2.2 (Nat.le_trans (HL.out _ _) (by omega))).mono ?_
  rintro e w4 ⟨v4, rfl, hown, hb⟩
  have H4 := Lib.hid (And.intro (H3.out.1.trans (hb.mono H3.out.1.size)) (And.intro (H3.out.2.1.below hb) (And.intro (H3.out.2.2.below hb) (Rws.of_owns hown))))
  have HW4 := Lib.hid (show w3.heap.size ≤ w4.heap.size from hb.size)
  clear hb hown H3
  go_wp2_with fail
  refine (ranged_back P t frm ⟨#[]⟩ rs w4 H4.out.2.1.tab HR2.out.2.1 (Nat.le_trans HR2.out.2.2 (by omega))).mono ?_
  rintro e w5 ⟨v5, rfl, hown, hb⟩
  have H5 := Lib.hid (And.intro (H4.out.1.trans (hb.mono H4.out.1.size)) (And.intro (H4.out.2.1.below hb) (And.intro (H4.out.2.2.1.below hb) (And.intro (H4.out.2.2.2.below hb) (Rws.of_owns hown)))))
  have HW5 := Lib.hid (Nat.le_trans HW4.out hb.size)
  clear hb hown H4 HW4
  go_wp2_with fail
  refine (Same_rows v4 v5 _ w5 H5.out.2.2.2.1 H5.out.2.2.2.2 (by rw [List.length_reverse]; exact Nat.le_trans (HL.out _ _) (by omega))).mono ?_
  rintro e w6 ⟨rfl, q, rfl⟩
  have hb := below_drewN' (Below.refl w5.heap.size w5) q
  have H6 := Lib.hid (And.intro (H5.out.1.trans (hb.mono H5.out.1.size)) (And.intro (H5.out.2.1.below hb) (H5.out.2.2.1.below hb)))
  have HW6 := Lib.hid (show w3.heap.size ≤ (w5.drewN q).heap.size from HW5.out)
  clear hb H5 HW5
  generalize w5.drewN q = w6 at *
  cases e1 : kl mid frm with
  | true =>
    have t1 : Op.bytesLess mid.toList frm.toList = true := e1
    clear e1
    go_wp2_with fail
    go_ret
    exact ⟨rfl, H6.out.1⟩
  | false =>
    have t1 : Op.bytesLess mid.toList frm.toList = false := e1
    by_cases e2 : mid = ⟨#[]⟩
    · have t2 : mid.toList.isEmpty = true := by rw [e2, nil_list]; rfl
      have t3 : (mid.toList == (⟨#[]⟩ : ByteArray).toList) = true := by rw [e2]; simp
      clear e1 e2
      go_wp2_with fail
      all_goals (try go_ret)
      all_goals first | exact ⟨rfl, H6.out.1⟩ | skip
    · have t2 : mid.toList.isEmpty = false := by
        cases e : mid.toList with
        | nil => exact absurd (toList_inj (by rw [e, nil_list])) e2
        | cons x r => rfl
      have t3 : (mid.toList == (⟨#[]⟩ : ByteArray).toList) = false := keq_false e2
      have HCUT := Lib.hid (cut_rows HS.out e1 e2)
      clear e1 e2
      go_wp2_with fail
      refine (ranged_all P t frm mid rs w6 H6.out.2.1.tab HR2.out.1 (Nat.le_trans HR2.out.2.2 (by omega))).mono ?_
      rintro e w7 ⟨v7, rfl, hown, hb⟩
      have HW7 := Lib.hid (show w6.heap.size ≤ w7.heap.size from hb.size)
      have HWB := Lib.hid (show w.heap.size ≤ w6.heap.size from H6.out.1.size)
      have H7 := Lib.hid (And.intro (H6.out.1.trans (hb.mono H6.out.1.size)) (And.intro (H6.out.2.1.below hb) (And.intro (H6.out.2.2.below hb) hown)))
      clear hb hown H6
      go_wp2_with fail
      refine (ranged_all P t mid ⟨#[]⟩ rs w7 H7.out.2.1.tab HR2.out.1 (Nat.le_trans HR2.out.2.2 (by omega))).mono ?_
      rintro e w8 ⟨v8, rfl, hown, hb⟩
      obtain ⟨A8, c8, rfl, hcs⟩ := Rws.of_owns hown
      have H8 := Lib.hid (And.intro (H7.out.1.trans (hb.mono H7.out.1.size)) (And.intro (H7.out.2.2.1.below hb) (owns_keep H7.out.2.2.2 (S := fun _ => False) (Turns.of_below hb) (fun _ _ h => h))))
      have HC8 := Lib.hid hcs
      have HNIL := Lib.hid (show A8 = none → (flt mid ⟨#[]⟩ rs).length = 0 from fun h => by
        rcases owns_form hown with ⟨_, h0, _⟩ | ⟨g, cap, hv, _, _⟩
        · exact h0
        · rw [h] at hv; injection hv with hv; cases hv)
      have HBS := Lib.hid (show w6.heap.size ≤ w8.heap.size from Nat.le_trans HW7.out hb.size)
      clear hb hown H7 hcs
      go_wp2_with (at_builtin; refine wpList_append_src rfl (.tmp 38) (.tmp 41) 33 rfl w6.heap.size 39 i0 _ 2 32 Try.underlying33 HI.out.1 HI.out.2.1 HI.out.2.2.1 HI.out.2.2.2 rfl (by decide) _ _ _ rfl H8.out.2.2 _ _ _ (flat rcR (flt mid ⟨#[]⟩ rs)) rfl ?h1 ?h2 ?h3 ?h4 ?h5 ?h6 ?h7 ?_)
      case h1 => rw [flat_length rcR_len]
      case h2 => exact HNIL.out
      case h3 =>
        intro ad had j u hu
        have hj := (List.getElem?_eq_some_iff.1 hu).1
        rw [flat_length rcR_len] at hj
        obtain ⟨k, i, hk, hi, rfl⟩ : ∃ k i, k < (flt mid ⟨#[]⟩ rs).length ∧ i < 2 ∧ j = k * 2 + i := ⟨j / 2, j % 2, by omega, by omega, by omega⟩
        obtain ⟨x, hx⟩ : ∃ x, (flt mid ⟨#[]⟩ rs)[k]? = some x := ⟨_, List.getElem?_eq_getElem hk⟩
        rw [flat_get rcR_len hx hi] at hu
        obtain ⟨g, o, hA', c0, c1⟩ := HC8.out k x hx
        rw [had] at hA'
        injection hA' with hA'
        subst hA'
        rw [addr_add]
        match i, hi with
        | 0, _ => injection hu with hu; subst hu; exact c0
        | 1, _ => injection hu with hu; subst hu; exact c1
      case h4 => exact flat_one rcR_one _
      case h5 => have := HL.out frm mid; have := HL.out mid ⟨#[]⟩; unfold maxLen; omega
      case h6 => have := HL.out frm mid; have := HL.out mid ⟨#[]⟩; omega
      case h7 => exact HBS.out
      intro v9 w9 hown9 hg9
      have hr9 : Rws w9 v9 (flt frm ⟨#[]⟩ rs) := Rws.of_owns (B := w6.heap.size) (owns_eq hown9 (by rw [← HCUT.out, List.length_append]) (by rw [← HCUT.out, flat_append]))
      have hr3 : Rws w9 v3 (flt frm ⟨#[]⟩ rs) := H8.out.2.1.keep (Turns.of_grown hg9) (fun g hg _ e => by
        have h1 := HW3.out g hg
        have h2 := (H8.out.2.2.lt g e).1
        have h3 := HW6.out
        omega)
      have H9 := Lib.hid (And.intro (H8.out.1.grown hg9 H8.out.1.size (fun k hk => Nat.le_trans HWB.out (H8.out.2.2.lt k hk).1)) (And.intro hr9 hr3))
      clear hr9 hr3 hown9 hg9 H8
      go_wp2_with fail
      refine (Same_rows v9 v3 _ w9 H9.out.2.1 H9.out.2.2 (Nat.le_trans (HL.out _ _) (by omega))).mono ?_
      rintro e w10 ⟨rfl, q, rfl⟩
      have H10 := Lib.hid (below_drewN' H9.out.1 q)
      clear H9
      go_wp2_with fail
      go_ret
      exact ⟨rfl, H10.out⟩

end Tb
end Go.Proofs.Ytoglklldclgcbaa
