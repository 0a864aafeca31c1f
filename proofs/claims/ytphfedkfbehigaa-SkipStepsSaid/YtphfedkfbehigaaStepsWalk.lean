/-
  Walk: the law SkipSteps.
-/
import Derived.Test.YtphfedkfbehigaaBackWalk
import Derived.Deep.QuietTactic
import Derived.BigQuiet
namespace Go.Proofs.Ytphfedkfbehigaa
open Go.RowKit Sk
namespace St

section
variable {α : Type} {p : α → Bool}
theorem filter_at {l : List α} {k : Nat} {x : α} (hx : l[k]? = some x) (hp : p x = true) : (l.filter p)[((l.take k).filter p).length]? = some x := by
  obtain ⟨hk, rfl⟩ := List.getElem?_eq_some_iff.1 hx
  have e : l = l.take k ++ l[k] :: l.drop (k + 1) := by simp
  conv => lhs; lhs; rw [e]
  rw [List.filter_append, List.filter_cons_of_pos hp]
  simp
theorem filter_take_yes {l : List α} {k : Nat} {x : α} (hx : l[k]? = some x) (hp : p x = true) : ((l.take (k + 1)).filter p).length = ((l.take k).filter p).length + 1 := by
  obtain ⟨hk, rfl⟩ := List.getElem?_eq_some_iff.1 hx
  rw [List.take_succ_eq_append_getElem hk, List.filter_append]
  simp [hp]
theorem filter_take_no {l : List α} {k : Nat} {x : α} (hx : l[k]? = some x) (hp : p x = false) : ((l.take (k + 1)).filter p).length = ((l.take k).filter p).length := by
  obtain ⟨hk, rfl⟩ := List.getElem?_eq_some_iff.1 hx
  rw [List.take_succ_eq_append_getElem hk, List.filter_append]
  simp [hp]
end

/-- the rows that stand on step m -/
def onR (m : Nat) (rows : List Row) : List Row := rows.filter fun x => decide (m ≤ x.s)
theorem onR_step (m : Nat) (rows : List Row) (hm : 1 ≤ m) : Rf.stepKeys (m : Int) rows = (onR m rows).map Rf.It.k := by
  unfold Rf.stepKeys onR
  rw [if_pos (by omega)]
  congr 1
  apply List.filter_congr
  intro x _
  simp
theorem onR_next (m : Nat) (rows : List Row) : (onR m rows).filter (fun x => decide (m + 1 ≤ x.s)) = onR (m + 1) rows := by
  unfold onR
  rw [List.filter_filter]
  apply List.filter_congr
  intro x _
  have : m + 1 ≤ x.s → m ≤ x.s := by omega
  by_cases h : m + 1 ≤ x.s
  · simp [h]; omega
  · simp [h]
theorem onR_le (m : Nat) (rows : List Row) : (onR m rows).length ≤ rows.length := List.length_filter_le _ _

theorem onR_mem {m : Nat} {rows : List Row} {x : Row} (h : x ∈ onR m rows) : x ∈ rows ∧ m ≤ x.s := by
  unfold onR at h
  have := List.mem_filter.1 h
  exact ⟨this.1, by simpa using this.2⟩
theorem same_key {rows : List Row} (hs : Srt Rf.It.k rows) {x y : Row} (hx : x ∈ rows) (hy : y ∈ rows) (h : x.k = y.k) : x = y := by
  have h1 := seek_of hs hx
  have h2 := seek_of hs hy
  rw [show Rf.It.k x = Rf.It.k y from h] at h1
  rw [h1] at h2
  injection h2

def SOut (B L b : Nat) (rows : List Row) (w : World) (cnt : Nat) (u s : Value) (w1 : World) : Prop :=
  ∃ m : Nat, m + cnt = 18 ∧ 2 ≤ m ∧ s = .int .i64 (m : Nat) ∧ Pair B L b rows w w1 ∧ Ks w1 u ((onR (m - 1) rows).map Rf.It.k)
def SIn (B L b : Nat) (rows : List Row) (m : Nat) (u v : Value) (w : World) (cnt : Nat) (a i : Value) (w1 : World) : Prop :=
  ∃ k : Nat, k + cnt = (onR m rows).length ∧ a = .int .i64 ((((onR m rows).take k).filter fun x => decide (m + 1 ≤ x.s)).length : Nat) ∧ i = .int .i64 (k : Nat) ∧
    Pair B L b rows w w1 ∧ Ks w1 u ((onR m rows).map Rf.It.k) ∧ Ks w1 v ((onR (m + 1) rows).map Rf.It.k)

set_option maxRecDepth 100000 in
set_option maxHeartbeats 2000000 in
theorem steps_walk (A : Option Addr) (len cap : Nat) (ds : List Deed) (w : World) (hlen : ds.length = len) (hds : Deeds w A ds) (hf : ∀ d ∈ ds, Deed.Fine d) :
    Calls Try.prog 7 #[.slice A len cap] w fun e w' => e = .returned (.bool true) ∧ Below w.heap.size w w' := by
  obtain ⟨B, hBw⟩ : ∃ B, w.heap.size = B := ⟨_, rfl⟩
  have HBW := Lib.hid hBw
  have HDS := Lib.hid (And.intro hlen (And.intro hds hf))
  clear hBw hds hlen hf
  go_enter Try.func7, Try.ntmps7
  go_wp2_with fail
  refine (Wk.works_any _).mono ?_
  rintro e w1 ⟨rfl, hb⟩
  have H1 := Lib.hid (show Below B w w1 from HBW.out ▸ hb)
  clear hb
  go_wp2_with fail
  refine (made_pair A len cap ds B w w1 HDS.out.1 HDS.out.2.1 HDS.out.2.2 HBW.out H1.out).mono ?_
  rintro e w2 ⟨L, b, rfl, hp⟩
  have hrl := mrows_length ds 80
  have HS := Lib.hid (And.intro (srt_mrows ds 80) (lv_rows hp.sk))
  generalize mrows ds 80 = rows at *
  have H2 := Lib.hid hp
  clear hp H1
  go_wp2_with fail
  refine (Step_st B L rows _ 1 H2.out.sk (by omega)).mono ?_
  rintro e w3 ⟨u, rfl, hu, hb⟩
  have e1 := onR_step 1 rows (by omega)
  rw [show ((1 : Nat) : Int) = 1 from rfl] at e1
  rw [e1] at hu
  have H3 := Lib.hid (And.intro (H2.out.below (HBW.out ▸ Nat.le_refl _) hb) (Ks.of_owns hu))
  clear hb hu e1 H2
  go_wp2_with fail
  go_loopg [5, 6] 16 (fun cnt u s w1 => SOut B L b rows w cnt u s w1)
  case atStart => exact ⟨2, rfl, by omega, rfl, H3.out.1, H3.out.2⟩
  case round =>
    clear H3
    obtain ⟨m1, hm, hm2, rfl, hp, hks⟩ := hrel
    obtain ⟨m, rfl⟩ : ∃ m, m1 = m + 1 := ⟨m1 - 1, by omega⟩
    rw [Nat.add_sub_cancel] at hks
    obtain ⟨A3, c3, hu3, _⟩ := hks.open
    subst hu3
    have H4 := Lib.hid (And.intro hp hks)
    have z4 : Hid (B ≤ wr.heap.size) := hp.size HBW.out
    have HM := Lib.hid (And.intro hm hm2)
    by_cases hlt : m < 17
    · clear hp hks hm hm2
      have ek : decide (m + 1 ≤ 17) = true := by simp; omega
      go_wp2_with fail
      refine (Step_st B L rows _ ((m : Int) + 1) H4.out.1.sk (by omega)).mono ?_
      rintro e w4 ⟨v, rfl, hv, hb⟩
      have e1 := onR_step (m + 1) rows (by omega)
      rw [Int.natCast_add, show ((1 : Nat) : Int) = 1 from rfl] at e1
      rw [e1] at hv
      have hks5 := Ks.of_owns hv
      obtain ⟨A5, c5, hu5, _⟩ := hks5.open
      subst hu5
      have H5 := Lib.hid (And.intro (H4.out.1.below (HBW.out ▸ Nat.le_refl _) hb) (And.intro (H4.out.2.below hb) hks5))
      have z5 : Hid (B ≤ w4.heap.size) := Nat.le_trans z4.out hb.size
      have hl1 := onR_le m rows
      have hl2 := onR_le (m + 1) rows
      rw [List.length_map]
      rw [List.length_map] at H5
      clear hb hv e1 hks5 H4 z4
      rw [List.length_map] at H5
      rw [List.length_map]
      go_wp2_with fail
      go_loopg [8, 9] (onR m rows).length (fun cnt a i w1 => SIn B L b rows m (.slice A3 (onR m rows).length c3) (.slice A5 (onR (m + 1) rows).length c5) w cnt a i w1)
      case atStart => exact ⟨0, by omega, by simp, rfl, H5.out.1, H5.out.2.1, H5.out.2.2⟩
      case round =>
        clear H5 z5
        obtain ⟨k, hk, rfl, rfl, hp, hks, hkv⟩ := hrel
        have HK := Lib.hid hk
        have H6 := Lib.hid (And.intro hp (And.intro hks hkv))
        have z6 : Hid (B ≤ wr.heap.size) := hp.size HBW.out
        by_cases hlt2 : k < (onR m rows).length
        · have hget := List.getElem?_eq_getElem hlt2
          obtain ⟨A6, c6, hu6, hcs⟩ := hks.open
          simp only [List.length_map, Value.slice.injEq] at hu6
          obtain ⟨rfl, _, rfl⟩ := hu6
          obtain ⟨A7, c7, hu7, hcv⟩ := hkv.open
          simp only [List.length_map, Value.slice.injEq] at hu7
          obtain ⟨rfl, _, rfl⟩ := hu7
          have hxm := onR_mem (List.mem_of_getElem? hget)
          obtain ⟨g, o, rfl, hc⟩ := hcs k _ (show ((onR m rows).map Rf.It.k)[k]? = some (onR m rows)[k].k by rw [List.getElem?_map, hget]; rfl)
          have hst : stepsV (onR m rows)[k].k rows = ((onR m rows)[k].s : Int) := by
            unfold stepsV
            rw [show seek Rf.It.k (onR m rows)[k].k rows = some (onR m rows)[k] from seek_of HS.out.1 hxm.1]; rfl
          generalize hX : (onR m rows)[k] = x at *
          have hcl : ((List.take k (onR m rows)).filter fun x => decide (m + 1 ≤ x.s)).length ≤ (onR m rows).length := Nat.le_trans (List.length_filter_le _ _) (List.length_take_le' _ _)
          by_cases hs : m + 1 ≤ x.s
          · have hat := filter_at (p := fun x : Row => decide (m + 1 ≤ x.s)) hget (by simpa using hs)
            have htk := filter_take_yes (p := fun x : Row => decide (m + 1 ≤ x.s)) hget (by simpa using hs)
            rw [onR_next] at hat
            have hatl := (List.getElem?_eq_some_iff.1 hat).1
            obtain ⟨g2, o2, rfl, hc2⟩ := hcv _ _ (show ((onR (m + 1) rows).map Rf.It.k)[_]? = some x.k by rw [List.getElem?_map, hat]; rfl)
            generalize hcc : ((List.take k (onR m rows)).filter fun x => decide (m + 1 ≤ x.s)).length = cc at *
            have HT := Lib.hid (And.intro htk hst)
            have hsI : decide (((m : Int) + 1) ≤ (x.s : Int)) = true := by simp; omega
            have e3 : (x.k.toList == x.k.toList) = true := by simp
            clear hp hks hkv hk hget hcs hcv hX hst hat htk hcc
            go_wp2_with fail
            go_quiet (fail)
            obtain ⟨w5, hw5⟩ : ∃ w5, wr.drewN nq = w5 := ⟨_, rfl⟩
            rw [hw5]
            have hb5 : Below wr.heap.size wr w5 := by rw [← hw5]; exact below_drewN' (Below.refl _ _) nq
            have H7 := Lib.hid (And.intro (H6.out.1.below (HBW.out ▸ Nat.le_refl _) hb5) (And.intro (H6.out.2.1.below hb5) (H6.out.2.2.below hb5)))
            have hc5 := (hb5.cell (p := ⟨g, o + k, none⟩) (H6.out.2.1.lt g rfl)).trans hc
            clear hb5 hw5 H6 z6 hc
            go_wp2_with fail
            refine (Steps_st B L rows _ x.k H7.out.1.sk).mono ?_
            rintro e w6 ⟨rfl, hb⟩
            rw [HT.out.2]
            have H8 := Lib.hid (And.intro (H7.out.1.below (HBW.out ▸ Nat.le_refl _) hb) (And.intro (H7.out.2.1.below hb) (H7.out.2.2.below hb)))
            clear hb H7 hc5
            have HR := Lib.hid (show SIn B L b rows m (.slice (some ⟨g, o, none⟩) (onR m rows).length c3) (.slice (some ⟨g2, o2, none⟩) (onR (m + 1) rows).length c5) w ((onR m rows).length - (k + 1)) (.int .i64 ((cc : Int) + 1)) (.int .i64 ((k : Int) + 1)) w6 from
              ⟨k + 1, by omega, by rw [HT.out.1]; simp, by simp, H8.out⟩)
            go_wp2_with fail
            go_roundg ((onR m rows).length - (k + 1))
            case measure => have := HK.out; omega
            case rel => exact HR.out
          · have htk := filter_take_no (p := fun x : Row => decide (m + 1 ≤ x.s)) hget (by simpa using hs)
            have hvx : ∀ y ∈ onR (m + 1) rows, (y.k.toList == x.k.toList) = false := fun y hy => keq_false fun e => by
              have := onR_mem hy
              rw [same_key HS.out.1 this.1 hxm.1 e] at this
              exact hs this.2
            have hnl := onR_next m rows
            have hcl2 : ((List.take k (onR m rows)).filter fun x => decide (m + 1 ≤ x.s)).length ≤ (onR (m + 1) rows).length := by
              rw [← hnl]
              exact ((List.take_sublist _ _).filter _).length_le
            generalize hcc : ((List.take k (onR m rows)).filter fun x => decide (m + 1 ≤ x.s)).length = cc at *
            have HT := Lib.hid (And.intro htk hst)
            have hsI : decide (((m : Int) + 1) ≤ (x.s : Int)) = false := by simp; omega
            by_cases hca : cc < (onR (m + 1) rows).length
            · have hat := List.getElem?_eq_getElem hca
              obtain ⟨g2, o2, rfl, hc2⟩ := hcv _ _ (show ((onR (m + 1) rows).map Rf.It.k)[_]? = some (onR (m + 1) rows)[cc].k by rw [List.getElem?_map, hat]; rfl)
              have hyx := hvx _ (List.mem_of_getElem? hat)
              generalize (onR (m + 1) rows)[cc] = y at *
              clear hp hks hkv hk hget hcs hcv hX hst hat htk hcc hvx hnl
              go_wp2_with fail
              go_quiet (fail)
              obtain ⟨w5, hw5⟩ : ∃ w5, wr.drewN nq = w5 := ⟨_, rfl⟩
              rw [hw5]
              have hb5 : Below wr.heap.size wr w5 := by rw [← hw5]; exact below_drewN' (Below.refl _ _) nq
              have H7 := Lib.hid (And.intro (H6.out.1.below (HBW.out ▸ Nat.le_refl _) hb5) (And.intro (H6.out.2.1.below hb5) (H6.out.2.2.below hb5)))
              have hc5 := (hb5.cell (p := ⟨g, o + k, none⟩) (H6.out.2.1.lt g rfl)).trans hc
              clear hb5 hw5 H6 z6 hc
              go_wp2_with fail
              refine (Steps_st B L rows _ x.k H7.out.1.sk).mono ?_
              rintro e w6 ⟨rfl, hb⟩
              rw [HT.out.2]
              have H8 := Lib.hid (And.intro (H7.out.1.below (HBW.out ▸ Nat.le_refl _) hb) (And.intro (H7.out.2.1.below hb) (H7.out.2.2.below hb)))
              clear hb H7 hc5
              have HR := Lib.hid (show SIn B L b rows m (.slice (some ⟨g, o, none⟩) (onR m rows).length c3) (.slice (some ⟨g2, o2, none⟩) (onR (m + 1) rows).length c5) w ((onR m rows).length - (k + 1)) (.int .i64 (cc : Nat)) (.int .i64 ((k : Int) + 1)) w6 from
                ⟨k + 1, by omega, by rw [HT.out.1], by simp, H8.out⟩)
              go_wp2_with fail
              go_roundg ((onR m rows).length - (k + 1))
              case measure => have := HK.out; omega
              case rel => exact HR.out
            · have hca2 : cc = (onR (m + 1) rows).length := by omega
              have hcd : decide ((cc : Int) < ((onR (m + 1) rows).length : Int)) = false := by simp; omega
              clear hp hks hkv hk hget hcs hcv hX hst htk hcc hvx hnl
              go_wp2_with fail
              go_quiet (fail)
              obtain ⟨w5, hw5⟩ : ∃ w5, wr.drewN nq = w5 := ⟨_, rfl⟩
              rw [hw5]
              have hb5 : Below wr.heap.size wr w5 := by rw [← hw5]; exact below_drewN' (Below.refl _ _) nq
              have H7 := Lib.hid (And.intro (H6.out.1.below (HBW.out ▸ Nat.le_refl _) hb5) (And.intro (H6.out.2.1.below hb5) (H6.out.2.2.below hb5)))
              have hc5 := (hb5.cell (p := ⟨g, o + k, none⟩) (H6.out.2.1.lt g rfl)).trans hc
              clear hb5 hw5 H6 z6 hc
              go_wp2_with fail
              refine (Steps_st B L rows _ x.k H7.out.1.sk).mono ?_
              rintro e w6 ⟨rfl, hb⟩
              rw [HT.out.2]
              have H8 := Lib.hid (And.intro (H7.out.1.below (HBW.out ▸ Nat.le_refl _) hb) (And.intro (H7.out.2.1.below hb) (H7.out.2.2.below hb)))
              clear hb H7 hc5
              have HR := Lib.hid (show SIn B L b rows m (.slice (some ⟨g, o, none⟩) (onR m rows).length c3) (.slice A5 (onR (m + 1) rows).length c5) w ((onR m rows).length - (k + 1)) (.int .i64 (cc : Nat)) (.int .i64 ((k : Int) + 1)) w6 from
                ⟨k + 1, by omega, by rw [HT.out.1], by simp, H8.out⟩)
              go_wp2_with fail
              go_roundg ((onR m rows).length - (k + 1))
              case measure => have := HK.out; omega
              case rel => have h := HR.out; rw [hca2] at h; exact h
        · have hkl : k = (onR m rows).length := by have := HK.out; omega
          have hcl : ((List.take k (onR m rows)).filter fun x => decide (m + 1 ≤ x.s)).length = (onR (m + 1) rows).length := by
            rw [List.take_of_length_le (by omega), onR_next]
          rw [hcl]
          have ek2 : decide (k < (onR m rows).length) = false := by simp; omega
          have HR := Lib.hid (show SOut B L b rows w (18 - (m + 2)) (.slice A5 (onR (m + 1) rows).length c5) (.int .i64 ((m : Int) + 1 + 1)) wr from
            ⟨m + 2, by omega, by omega, by simp; omega, H6.out.1, H6.out.2.2⟩)
          clear hp hks hkv hk H6 hcl
          go_wp2_with fail
          go_roundg (18 - (m + 2))
          case measure => have := HM.out.1; omega
          case rel => exact HR.out
    · have hm17 : m = 17 := by omega
      subst hm17
      have hnone : onR 17 rows = [] := by
        unfold onR
        rw [List.filter_eq_nil_iff]
        intro x hx
        have := (HS.out.2 x hx).2
        simp; omega
      rw [hnone]
      clear hp hks hm hm2
      go_wp2_with fail
      refine (Len_st B L rows _ H4.out.1.sk).mono ?_
      rintro e w' ⟨rfl, rfl⟩
      have hrun := H4.out.1.mp.len_run
      have HL := Lib.hid H4.out.1.low
      go_wp2
      go_ret
      exact ⟨rfl, by rw [HBW.out]; exact HL.out⟩

end St
end Go.Proofs.Ytphfedkfbehigaa
