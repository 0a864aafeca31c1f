/-
  Walk: the law SkipMap.
-/
import Derived.Test.YtphfedkfbehigaaMadeFacts
import Derived.Deep.QuietTactic
import Derived.BigQuiet
namespace Go.Proofs.Ytphfedkfbehigaa
open Go.RowKit Sk
namespace St

def MapRel (B L b : Nat) (rows : List Row) (u : Value) (w : World) (cnt : Nat) (s : Value) (w1 : World) : Prop :=
  ∃ k, k + cnt = rows.length ∧ s = .int .i64 (k : Nat) ∧ Pair B L b rows w w1 ∧ Ks w1 u (rows.map Rf.It.k)

set_option maxRecDepth 100000 in
set_option maxHeartbeats 2000000 in
theorem map_walk (A : Option Addr) (len cap : Nat) (ds : List Deed) (w : World) (hlen : ds.length = len) (hds : Deeds w A ds) (hf : ∀ d ∈ ds, Deed.Fine d) :
    Calls Try.prog 5 #[.slice A len cap] w fun e w' => e = .returned (.bool true) ∧ Below w.heap.size w w' := by
  obtain ⟨B, hBw⟩ : ∃ B, w.heap.size = B := ⟨_, rfl⟩
  have HBW := Lib.hid hBw
  have HDS := Lib.hid (And.intro hlen (And.intro hds hf))
  clear hBw hds hlen hf
  go_enter Try.func5, Try.ntmps5
  go_wp2_with fail
  refine (Wk.works_any _).mono ?_
  rintro e w1 ⟨rfl, hb⟩
  have H1 := Lib.hid (show Below B w w1 from HBW.out ▸ hb)
  clear hb
  go_wp2_with fail
  refine (made_pair A len cap ds B w w1 HDS.out.1 HDS.out.2.1 HDS.out.2.2 HBW.out H1.out).mono ?_
  rintro e w2 ⟨L, b, rfl, hp⟩
  have hrl := mrows_length ds 80
  have HS := Lib.hid (And.intro (srt_mrows ds 80) (keyed_mrows ds HDS.out.2.2 80))
  have hall := stepKeys_all fun x hx => (lv_rows hp.sk x hx).1
  generalize mrows ds 80 = rows at *
  have H2 := Lib.hid hp
  have HA := Lib.hid hall
  clear hp hall H1
  go_wp2_with fail
  refine (Len_st B L _ _ H2.out.sk).mono ?_
  rintro e w' ⟨rfl, rfl⟩
  go_wp2_with (at_len; refine wpList_len_mp _ rfl _ rfl b 80 rows rfl H2.out.mp ?_)
  refine (Step_st B L rows _ 1 H2.out.sk (by omega)).mono ?_
  rintro e w3 ⟨u, rfl, hu, hb⟩
  rw [HA.out] at hu
  have hp3 := H2.out.below (HBW.out ▸ Nat.le_refl _) hb
  have hk3 := Ks.of_owns hu
  obtain ⟨A3, c3, hu3, _⟩ := hk3.open
  have H3 := Lib.hid (And.intro hp3 hk3)
  clear hp3 hk3 hb hu
  rw [List.length_map] at hu3
  subst hu3
  go_wp2_with (at_len; refine wpList_len_mp _ rfl _ rfl b 80 rows rfl H3.out.1.mp ?_)
  go_loopg [6] rows.length (fun cnt s w1 => MapRel B L b rows (.slice A3 rows.length c3) w cnt s w1)
  case atStart => exact ⟨0, by omega, rfl, H3.out⟩
  case round =>
    obtain ⟨k, hk, rfl, hp, hks⟩ := hrel
    have HK := Lib.hid hk
    have H4 := Lib.hid (And.intro hp hks)
    by_cases hlt : k < rows.length
    · have hget := List.getElem?_eq_getElem hlt
      have hsk := seek_at HS.out.1 hget
      have hkl := HS.out.2 rows[k] (List.getElem_mem hlt)
      have hprev : ∀ j, k = j + 1 → ∃ y : Row, rows[j]? = some y ∧ Op.bytesLess y.k.toList rows[k].k.toList = true := fun j hj => by
        have hj2 : j < rows.length := by omega
        exact ⟨rows[j], List.getElem?_eq_getElem hj2, srt_at HS.out.1 (by omega) (List.getElem?_eq_getElem hj2) hget⟩
      obtain ⟨A4, c4, hu4, hcs⟩ := hks.open
      simp only [List.length_map, Value.slice.injEq] at hu4
      obtain ⟨rfl, _, rfl⟩ := hu4
      have hgk : (rows.map Rf.It.k)[k]? = some rows[k].k := by rw [List.getElem?_map, hget]; rfl
      obtain ⟨g, o, rfl, hc⟩ := hcs k _ hgk
      have HC := Lib.hid hcs
      generalize rows[k] = x at *
      have hgV : getV x.k rows = x.v := by unfold getV; rw [hsk]; rfl
      have hgB : getB x.k rows = true := by unfold getB; rw [hsk]; rfl
      have HP := Lib.hid hprev
      have HG := Lib.hid (And.intro hgV hgB)
      clear hcs hks hp hgk hget hsk hprev hgV hgB
      go_wp2_with (at_lookup; refine wpList_look_mp _ rfl _ _ rfl b 80 rows rfl H4.out.1.mp x.k hkl rfl ?_; rw [HG.out.1, HG.out.2])
      refine (Get_st B L rows _ x.k H4.out.1.sk).mono ?_
      rintro e w5 ⟨rfl, hb⟩
      rw [HG.out.1, HG.out.2]
      have H5 := Lib.hid (And.intro (H4.out.1.below (HBW.out ▸ Nat.le_refl _) hb) (H4.out.2.below hb))
      have hc5 := ((hb.cell (p := ⟨g, o + k, none⟩) (H4.out.2.lt g rfl)).trans hc)
      have hlt5 := H4.out.2.lt g rfl
      cases k with
      | zero =>
        have hrel : ∀ q, MapRel B L b rows (.slice (some ⟨g, o, none⟩) rows.length c3) w (rows.length - 1) (.int .i64 1) (w5.drewN q) := fun q =>
          ⟨1, by omega, rfl, H5.out.1.below (HBW.out ▸ Nat.le_refl _) (below_drewN' (Below.refl _ _) q), H5.out.2.below (below_drewN' (Below.refl _ _) q)⟩
        have HR := Lib.hid hrel
        clear hb hc hrel H2 H3
        go_wp2_with fail
        go_quiet (fail)
        go_wp2_with fail
        go_roundg (rows.length - 1)
        case measure => have := HK.out; omega
        case rel => exact HR.out _
      | succ j =>
        obtain ⟨y, hy, hyk⟩ := HP.out j rfl
        obtain ⟨g', o', hA, hcy⟩ := HC.out j y.k (by rw [List.getElem?_map, hy]; rfl)
        obtain ⟨rfl, rfl⟩ : g = g' ∧ o = o' := by simpa using hA
        have hcy5 := ((hb.cell (p := ⟨g, o + j, none⟩) hlt5).trans hcy)
        have hrel : ∀ q, MapRel B L b rows (.slice (some ⟨g, o, none⟩) rows.length c3) w (rows.length - (j + 2)) (.int .i64 ((j : Int) + 1 + 1)) (w5.drewN q) := fun q =>
          ⟨j + 2, by omega, by simp; omega, H5.out.1.below (HBW.out ▸ Nat.le_refl _) (below_drewN' (Below.refl _ _) q), H5.out.2.below (below_drewN' (Below.refl _ _) q)⟩
        have HR := Lib.hid hrel
        have hlx : Op.bytesLess x.k.toList y.k.toList = false := kl_asymm hyk
        have hex : (x.k.toList == y.k.toList) = false := keq_false (by intro e; rw [e] at hlx hyk; exact absurd (show kl y.k y.k = true from hyk) (by rw [kl_irrefl]; simp))
        have hw1 : IntKind.i64.wrap ((j : Int) + 1 - 1) = (j : Int) := by rw [IntWalk.i64_in _ (by omega)]; omega
        clear hb hc hrel H2 H3 hcy hA
        go_wp2_with fail
        go_quiet (fail)
        go_wp2_with fail
        go_roundg (rows.length - (j + 2))
        case measure => have := HK.out; omega
        case rel => exact HR.out _
    · have ek : decide (k < rows.length) = false := by simp; omega
      have HL := Lib.hid H4.out.1.low
      clear hp hks hlt hk
      go_wp2
      go_ret
      exact ⟨rfl, by rw [HBW.out]; exact HL.out⟩

end St
end Go.Proofs.Ytphfedkfbehigaa
