/-
  Walk: the law TableRanges.
-/
import Derived.Test.YtoglklldclgcbaaTbTwo
import Derived.Test.YtoglklldclgcbaaTbWorks
namespace Go.Proofs.Ytoglklldclgcbaa
open Go.RowKit Sk
namespace Tb

theorem below_not {B : Nat} {w w' : World} (h : Turns (fun k => ¬ k < B) w w') (hB : B ≤ w.heap.size) : Below B w w' := h.to_below hB fun _ hk => Nat.le_of_not_lt hk
theorem Ops.f {w : World} {A : Option Addr} {len cap : Nat} {l : List Chg} (h : Ops w A len cap l) : ∀ g o, A = some ⟨g, o, none⟩ → l ≠ [] → g < w.heap.size := by
  intro g o hg hl
  cases l with
  | nil => exact absurd rfl hl
  | cons x r =>
    obtain ⟨g', o', hg', c0, _, _⟩ := h.cell 0 x rfl
    rw [hg] at hg'
    injection hg' with hg'
    injection hg' with e1 e2
    subst e1
    exact World.block_lt_of_cell? w _ c0

def RanRel (t p : Nat) (ls : List (List Chg)) (w : World) (n cnt : Nat) (s : Value) (w1 : World) : Prop :=
  ∃ k, k + cnt = n ∧ s = .int .i64 (k : Nat) ∧ Two (fun k => k < w.heap.size) t p (tRows ls k) (tRows ls k) w1 ∧ Below w.heap.size w w1

set_option maxRecDepth 100000 in
set_option maxHeartbeats 4000000 in
theorem ranges_walk (A : Option Addr) (len cap : Nat) (ls : List (List Chg)) (frm tt : ByteArray) (w : World) (hb : Bts w A len cap ls) (hk : ∀ l ∈ ls, ∀ o ∈ l, o.k.size ≤ reachBytes) :
    Calls Try.prog 4 #[.slice A len cap, .string frm, .string tt] w fun e w' => e = .returned (.bool true) ∧ Below w.heap.size w w' := by
  have HB := Lib.hid (And.intro hb hk)
  obtain ⟨n, hn, hn1, hn2⟩ : ∃ n, n = min len 30 ∧ n ≤ len ∧ n ≤ 30 := ⟨_, rfl, Nat.min_le_left _ _, Nat.min_le_right _ _⟩
  have HN := Lib.hid hn
  clear hb hk hn
  go_enter Try.func4, Try.ntmps4
  go_wp2_with fail
  refine (New_at 1 w).mono ?_
  rintro e w1 ⟨t, rfl, h1, hb1⟩
  have H1 := Lib.hid (And.intro h1 hb1)
  clear h1 hb1
  go_wp2_with fail
  refine (New_ref 1 w1).mono ?_
  rintro e w2 ⟨rfl, h2⟩
  have H2 := Lib.hid (Two.new H1.out.1 H1.out.2 h2)
  clear h2 H1
  generalize w1.heap.size = p at *
  go_wp2_with fail
  go_loopg [9] n (fun cnt s w1 => RanRel t p ls w n cnt s w1)
  case atStart => exact ⟨0, by omega, rfl, H2.out⟩
  case round =>
    clear H2
    obtain ⟨k, hkn, rfl, htwo, hbel⟩ := hrel
    have HK := Lib.hid hkn
    have HT := Lib.hid (And.intro htwo hbel)
    have hlen := tRows_len ls k
    by_cases hlt : k < n
    · obtain ⟨l, hq⟩ : ∃ l, ls[k]? = some l := ⟨_, List.getElem?_eq_getElem (by rw [HB.out.1.hlen]; omega)⟩
      obtain ⟨g, o, A', n', c', rfl, hcell, hops⟩ := HB.out.1.cell k l hq
      have hcw : ∀ w', Below w.heap.size w w' → w'.cell? ⟨g, o + k, none⟩ = some (.slice A' n' c') := fun w' hb => (hb.cell (p := ⟨g, _, none⟩) (World.block_lt_of_cell? w _ hcell)).trans hcell
      have b1 : (k : Int) < (len : Int) := by omega
      have b2 : (0 : Int) ≤ (k : Int) := by omega
      have b3 : (k : Int) < 30 := by omega
      have x0 := hcw wr hbel
      have hl9 : (tRows ls k).length ≤ 900000 := by omega
      have hts := tRows_succ hq
      have HO := Lib.hid (And.intro hops hcw)
      have HBZ := Lib.hid (show w.heap.size ≤ wr.heap.size from hbel.size)
      have HNX : Hid (∀ w3, Two (fun k => k < w.heap.size) t p (appT l (tRows ls k)) (appT l (tRows ls k)) w3 → Below w.heap.size w w3 → RanRel t p ls w n (n - (k + 1)) (.int .i64 ((k : Int) + 1)) w3) := fun w3 h3 h4 =>
        ⟨k + 1, by omega, by simp, by rw [hts]; exact h3, h4⟩
      have t1 : (chkO l != chkO l) = false := by simp
      generalize tRows ls k = rs at *
      generalize hc : chkO l = c at *
      have HCC := Lib.hid hc
      clear htwo hbel hkn hlen hq hcell hops hcw hts hc
      go_wp2_with fail
      go_region_held3 (fun w' => w'.cell? ⟨g, o + k, none⟩ = some (.slice A' n' c')) (first | assumption | go_keep)
        (first
         | (go_at_call 14
            refine ((HT.out.1.below ((Below.refl _ _).drew)).apply_t (HO.out.1.below (HT.out.2.trans (Below.refl _ _).drew)) HO.out.1.f hl9).mono ?_
            rw [HCC.out]
            rintro e w2 ⟨rfl, ht2, hf2⟩
            have hb2 := HT.out.2.trans (((Below.refl w.heap.size wr).drew).trans (below_not hf2 HBZ.out))
            have c2 := HO.out.2 _ hb2
            have h2 := Lib.hid (And.intro ht2 hb2)
            clear ht2 hf2 hb2)
         | (go_at_call 15
            refine (h2.out.1.apply_r (HO.out.1.below h2.out.2) HO.out.1.f hl9).mono ?_
            rw [HCC.out]
            rintro e w3 ⟨rfl, ht3, hf3⟩
            have hb3 := h2.out.2.trans (below_not hf3 h2.out.2.size)
            have c3 := HO.out.2 _ hb3
            have h3 := Lib.hid (And.intro ht3 hb3)
            clear ht3 hf3 hb3))
      have HF := Lib.hid (HNX.out _ h3.out.1 h3.out.2)
      go_wp2_with fail
      go_roundg (n - (k + 1))
      case measure => have := HK.out; omega
      case rel => exact HF.out
    · obtain rfl : k = n := by omega
      have hend : Hid (∃ rs, Two (fun k => k < w.heap.size) t p rs rs wr ∧ (∀ x ∈ rs, x.k.size ≤ reachBytes) ∧ (∀ x ∈ rs, x.k ≠ ⟨#[]⟩) ∧ rs.length ≤ 1000000 ∧ Below w.heap.size w wr) :=
        ⟨_, htwo, tRows_all (Q := fun x => x.k.size ≤ reachBytes) (fun l hl o ho _ => HB.out.2 l hl o ho) k, tRows_ne ls k, by omega, hbel⟩
      have hcase : (¬ k < len) ∨ (k < len ∧ ¬ k < 30) := by have := HN.out; omega
      clear htwo hbel hkn hlen hlt HT HB HK HN
      obtain ⟨rs, hrs⟩ := hend.out
      have H3 := Lib.hid (And.intro hrs.1 hrs.2.2.2.2)
      have HR := Lib.hid (And.intro hrs.2.1 (And.intro hrs.2.2.1 hrs.2.2.2.1))
      have HFL : Hid ((flt frm tt rs).length ≤ 1000000000) := Nat.le_trans (List.length_filter_le _ _) (Nat.le_trans HR.out.2.2 (by omega))
      clear hrs hend
      generalize hgv : getV frm rs = gv
      generalize hgb : getB frm rs = gb
      have HG := Lib.hid (And.intro hgv hgb)
      clear hgv hgb
      rcases hcase with hc1 | ⟨hc1, hc2⟩
      all_goals
        first
        | (have ek : decide ((k : Int) < (len : Int)) = false := by simp; omega)
        | (have ek : decide ((k : Int) < (len : Int)) = true := by simp; omega)
        first
        | (have ek2 : decide (k < len) = false := by simp; omega)
        | (have ek2 : decide (k < len) = true := by simp; omega)
        try (have ek3 : decide ((k : Int) < 30) = false := by simp; omega)
        try (have ek4 : decide (k < 30) = false := by simp; omega)
        go_wp2_with fail
        obtain ⟨P, hP⟩ := H3.out.1.tab
        refine (Get_tb frm hP.tab).mono ?_
        rw [HG.out.1, HG.out.2]
        rintro e v1 ⟨rfl, hb⟩
        have H4 := Lib.hid (And.intro (H3.out.1.below hb) (H3.out.2.trans (hb.mono H3.out.2.size)))
        clear hb H3 hP
        go_wp2_with fail
        obtain ⟨R, v, hR⟩ := H4.out.1.ref
        refine (Get_ref R p v rs frm v1 hR HR.out.2.2).mono ?_
        rw [HG.out.1, HG.out.2]
        rintro e v2 ⟨rfl, q, rfl⟩
        have H5 := Lib.hid (And.intro (H4.out.1.below (below_drewN' (Below.refl _ _) q)) (below_drewN' H4.out.2 q))
        clear H4 hR
        generalize v1.drewN q = v2 at *
        go_wp2_with fail
        obtain ⟨R, v, hR⟩ := H5.out.1.ref
        refine (Between_ref R p v rs frm tt v2 hR HR.out.2.2).mono ?_
        rintro e v3 ⟨u, rfl, hown, hb⟩
        have H6 := Lib.hid (And.intro (H5.out.1.below hb) (And.intro (H5.out.2.trans (hb.mono H5.out.2.size)) (Rws.of_owns hown)))
        clear H5 hR hb hown
        go_wp2_with fail
        obtain ⟨P, hP⟩ := H6.out.1.tab
        refine (ranged_all P t frm tt rs v3 hP.tab HR.out.1 HR.out.2.2).mono ?_
        rintro e v4 ⟨u4, rfl, hown, hb⟩
        have H7 := Lib.hid (And.intro (H6.out.1.below hb) (And.intro (H6.out.2.1.trans (hb.mono H6.out.2.1.size)) (And.intro (H6.out.2.2.below hb) (Rws.of_owns hown))))
        clear H6 hP hb hown
        go_wp2_with fail
        refine (Same_rows u4 u _ v4 H7.out.2.2.2 H7.out.2.2.1 HFL.out).mono ?_
        rintro e v5 ⟨rfl, q, rfl⟩
        have hb := below_drewN' (Below.refl v4.heap.size v4) q
        have H8 := Lib.hid (And.intro (H7.out.1.below hb) (And.intro (below_drewN' H7.out.2.1 q) (H7.out.2.2.1.below hb)))
        clear H7 hb
        generalize v4.drewN q = v5 at *
        go_wp2_with fail
        obtain ⟨P, hP⟩ := H8.out.1.tab
        refine (ranged_back P t frm tt rs v5 hP.tab HR.out.2.1 HR.out.2.2).mono ?_
        rintro e v6 ⟨u6, rfl, hown, hb⟩
        have H9 := Lib.hid (And.intro (H8.out.2.1.trans (hb.mono H8.out.2.1.size)) (And.intro (H8.out.2.2.below hb) (Rws.of_owns hown)))
        clear H8 hP hb hown
        go_wp2_with fail
        refine (turned_any u _ v6 H9.out.2.1 (Nat.le_trans (List.length_filter_le _ _) HR.out.2.2)).mono ?_
        rintro e v7 ⟨u7, rfl, hown, hb⟩
        have H10 := Lib.hid (And.intro (H9.out.1.trans (hb.mono H9.out.1.size)) (And.intro (H9.out.2.2.below hb) (Rws.of_owns hown)))
        clear H9 hb hown
        go_wp2_with fail
        refine (Same_rows u6 u7 _ v7 H10.out.2.1 H10.out.2.2 (by rw [List.length_reverse]; exact HFL.out)).mono ?_
        rintro e v8 ⟨rfl, q, rfl⟩
        have H11 := Lib.hid (below_drewN' H10.out.1 q)
        clear H10
        generalize v7.drewN q = v8 at *
        go_wp2_with fail
        refine (works_any v8).mono ?_
        rintro e v9 ⟨rfl, hb⟩
        have H12 := Lib.hid (H11.out.trans (hb.mono H11.out.size))
        clear hb H11
        go_wp2_with fail
        go_ret
        exact ⟨rfl, H12.out⟩

end Tb
end Go.Proofs.Ytoglklldclgcbaa
