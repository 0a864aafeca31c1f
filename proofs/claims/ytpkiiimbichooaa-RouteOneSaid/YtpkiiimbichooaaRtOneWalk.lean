/-
  Walk: the law RouteOne.
-/
import Derived.Test.YtpkiiimbichooaaRtMeet
namespace Go.Proofs.Ytpkiiimbichooaa
open Go.RowKit Sk
namespace Rt

set_option maxRecDepth 100000 in
set_option maxHeartbeats 2000000 in
/-- a plan that may not be -/
theorem one_bad (A : Option Addr) (len cap : Nat) (l : List ByteArray) (n : Int) (key : ByteArray) (w : World) (hl : Strs w A len cap l) (hz : newE l n ≠ 0) :
    Calls Try.prog 8 #[.agg #[.slice A len cap, .int .i64 n], .string key] w fun e w' => e = .returned (.bool true) ∧ Below w.heap.size w w' := by
  have HL := Lib.hid hl
  have hd1 : decide (newE l n = 0) = false := by simpa using hz
  have hd2 : (newE l n != 0) = true := by simpa using hz
  have HZ := Lib.hid hz
  clear hl hz
  go_enter Try.func8, Try.ntmps8
  go_wp2_with fail
  refine (works_any _).mono ?_
  rintro e w1 ⟨rfl, hb⟩
  have H1 : Hid (Below w.heap.size w w1) := by
    show Below _ _ _
    refine Below.trans ?_ (hb.mono (by simp))
    first
      | exact ((Below.refl _ _).alloc (Nat.le_refl _) _)
      | exact ((Below.refl _ _).alloc (Nat.le_refl _) _).alloc (by simp) _
  have c0 : w1.cell? ⟨w.heap.size, 0, none⟩ = some (.slice A len cap) := (hb.cell (p := ⟨w.heap.size, 0, none⟩) (by simp)).trans (by go_simp)
  have c1 : w1.cell? ⟨w.heap.size, 1, none⟩ = some (.int .i64 n) := (hb.cell (p := ⟨w.heap.size, 1, none⟩) (by simp)).trans (by go_simp)
  have h2 := New_any A len cap l n w1 (HL.out.below H1.out)
  have H2 := Lib.hid (h2.mono (R' := fun e w' => e = .returned (.tuple #[.pointer none, .int .i64 (newE l n)]) ∧ w1 = w') fun e w' h => by
    rcases h with ⟨_, he, hw⟩ | ⟨h0, _⟩
    · exact ⟨he, hw⟩
    · exact absurd h0 HZ.out)
  clear h2 hb
  generalize newE l n = c at *
  go_wp2_with fail
  refine H2.out.mono ?_
  rintro e w' ⟨rfl, rfl⟩
  go_wp2
  go_ret
  exact ⟨rfl, H1.out⟩

set_option maxRecDepth 100000 in
set_option maxHeartbeats 2000000 in
theorem one_none (A : Option Addr) (len cap : Nat) (l : List ByteArray) (n : Int) (key : ByteArray) (w : World) (hl : Strs w A len cap l) (hz : newE l n = 0) (hk : isK key = false) :
    Calls Try.prog 8 #[.agg #[.slice A len cap, .int .i64 n], .string key] w fun e w' => e = .returned (.bool true) ∧ Below w.heap.size w w' := by
  have HL := Lib.hid hl
  obtain ⟨h6, hok, hn, hn4⟩ := newE_zero hz
  have HO := Lib.hid (And.intro h6 hok)
  have HK := Lib.hid hk
  have HOF : Hid (∀ w : World, Calls Try.prog 26 #[.string key] w fun e w' => (∃ a b c, e = .returned (.tuple #[Sp a b, .int .i64 c])) ∧ Below w.heap.size w w') := fun w => by
    by_cases h : 32 < key.size
    · exact (Of_long key w h).mono fun _ _ ⟨a, b⟩ => ⟨⟨_, _, _, a⟩, b⟩
    · exact (Of_short key w (by omega)).mono fun _ _ ⟨a, b⟩ => ⟨⟨_, _, _, a⟩, b⟩
  clear hl hz h6 hok hk
  go_enter Try.func8, Try.ntmps8
  go_wp2_with fail
  refine (works_any _).mono ?_
  rintro e w1 ⟨rfl, hb⟩
  have H1 : Hid (Below w.heap.size w w1) := ((Below.refl _ _).alloc (Nat.le_refl _) _).trans (hb.mono (by simp))
  have c0 : w1.cell? ⟨w.heap.size, 0, none⟩ = some (.slice A len cap) := (hb.cell (p := ⟨w.heap.size, 0, none⟩) (by simp)).trans (by go_simp)
  have c1 : w1.cell? ⟨w.heap.size, 1, none⟩ = some (.int .i64 n) := (hb.cell (p := ⟨w.heap.size, 1, none⟩) (by simp)).trans (by go_simp)
  have H2 := Lib.hid (New_ok A len cap l n w1 (HL.out.below H1.out) HO.out.1 HO.out.2 hn hn4)
  clear hb
  go_wp2_with fail
  refine H2.out.mono ?_
  rintro e w2 ⟨R, rfl, hr, hb⟩
  have H3 := Lib.hid (Shard_out hr hn key HK.out)
  have HB := Lib.hid (H1.out.trans (hb.mono H1.out.size))
  clear hr hb c0 c1
  go_wp2_with fail
  refine H3.out.mono ?_
  rintro e w' ⟨rfl, rfl⟩
  go_wp2_with fail
  refine (HOF.out _).mono ?_
  rintro e w3 ⟨⟨a, b, c, rfl⟩, hb⟩
  have HB3 := Lib.hid (HB.out.trans (hb.mono HB.out.size))
  clear hb
  go_wp2
  go_ret
  exact ⟨rfl, HB3.out.alloc HB3.out.size _⟩

set_option maxRecDepth 100000 in
set_option maxHeartbeats 4000000 in
theorem one_ok (A : Option Addr) (len cap : Nat) (l : List ByteArray) (n : Int) (key : ByteArray) (w : World) (hl : Strs w A len cap l) (hz : newE l n = 0) (hk : isK key = true) :
    Calls Try.prog 8 #[.agg #[.slice A len cap, .int .i64 n], .string key] w fun e w' => e = .returned (.bool true) ∧ Below w.heap.size w w' := by
  have HL := Lib.hid hl
  obtain ⟨h6, hok, hn, hn4⟩ := newE_zero hz
  obtain ⟨k1, k2⟩ : 1 ≤ key.size ∧ key.size ≤ 32 := by unfold isK at hk; simpa using hk
  obtain ⟨s1, s2, s3, s4⟩ := shard_in hok k1 k2
  have hE : (edges l).length = l.length + 2 := edges_length l
  have HO := Lib.hid (And.intro h6 hok)
  have HK := Lib.hid (And.intro hk (And.intro s3 k2))
  have HE := Lib.hid hE
  have HA := Lib.hid (asc_edges hok)
  have HP := Lib.hid (parts_key hok n k1 k2)
  clear hl hz h6 hok hk hE k1 k2 s1 s2 s3 s4
  go_enter Try.func8, Try.ntmps8
  go_wp2_with fail
  refine (works_any _).mono ?_
  rintro e w1 ⟨rfl, hb⟩
  have H1 : Hid (Below w.heap.size w w1) := ((Below.refl _ _).alloc (Nat.le_refl _) _).trans (hb.mono (by simp))
  have c0 : w1.cell? ⟨w.heap.size, 0, none⟩ = some (.slice A len cap) := (hb.cell (p := ⟨w.heap.size, 0, none⟩) (by simp)).trans (by go_simp)
  have c1 : w1.cell? ⟨w.heap.size, 1, none⟩ = some (.int .i64 n) := (hb.cell (p := ⟨w.heap.size, 1, none⟩) (by simp)).trans (by go_simp)
  have H2 := Lib.hid (New_ok A len cap l n w1 (HL.out.below H1.out) HO.out.1 HO.out.2 hn hn4)
  clear hb
  go_wp2_with fail
  refine H2.out.mono ?_
  rintro e w2 ⟨R, rfl, hr, hb⟩
  have H3 := Lib.hid (Shard_in hr hn HA.out (by rw [HE.out]; have := HO.out.1; omega) key HK.out.1 HK.out.2.1)
  have HB2 := Lib.hid hb
  have HR2 := Lib.hid hr
  clear hr hb c0 c1
  go_wp2_with fail
  refine H3.out.mono ?_
  rintro e w' ⟨rfl, q, rfl⟩
  have HR := Lib.hid (HR2.out.below (below_drewN' (Below.refl _ _) q))
  have HB : Hid (Below w.heap.size w (w2.drewN q)) := H1.out.trans ((HB2.out.trans (below_drewN' (Below.refl _ w2) q)).mono H1.out.size)
  clear HR2 HB2 H2 H3
  go_wp2_with fail
  refine (Of_short key _ HK.out.2.2).mono ?_
  rintro e w3 ⟨rfl, hb3⟩
  have HR3 := Lib.hid (HR.out.below (hb3.trans ((Below.refl w3.heap.size w3).alloc (Nat.le_refl _) (.cells #[.string key, .string (nxt key)] 34) |>.mono hb3.size)))
  have HB3 := Lib.hid (HB.out.trans (hb3.mono HB.out.size))
  have h4 := Parts_ok HR3.out hn hn4 (by rw [HE.out]; have := HO.out.1; omega) key (nxt key) (chk_key HK.out.2.2)
  have e1 : (edges l).length - 1 = l.length + 1 := by rw [HE.out]; omega
  rw [e1, HP.out] at h4
  have H4 := Lib.hid h4
  generalize shard (edges l) key = sh at *
  generalize nxt key = nk at *
  clear hb3 HR h4 e1
  go_wp2_with fail
  refine H4.out.mono ?_
  rintro e w4 ⟨u, rfl, hown, hb4⟩
  obtain ⟨A4, c4, hu, _, hcs⟩ := hown.cells
  obtain ⟨g, hA, _, hg, p0, p1, p2, p3⟩ := hcs 0 _ rfl
  subst hA
  have hu2 : u = .slice (some ⟨g, 0, none⟩) 1 c4 := hu
  subst hu2
  simp only [Nat.zero_mul, Nat.zero_add] at p0 p1 p2 p3
  have d0 : w4.cell? ⟨w3.heap.size, 0, none⟩ = some (.string key) := (hb4.cell (p := ⟨w3.heap.size, 0, none⟩) (by simp)).trans (by go_simp)
  have d1 : w4.cell? ⟨w3.heap.size, 1, none⟩ = some (.string nk) := (hb4.cell (p := ⟨w3.heap.size, 1, none⟩) (by simp)).trans (by go_simp)
  have HB4 : Hid (Below w.heap.size w w4) := (HB3.out.alloc HB3.out.size _).trans (hb4.mono (by have := HB3.out.size; simp; omega))
  clear hown hb4 hcs hu
  go_wp2
  go_quiet (fail)
  go_wp2
  go_ret
  exact ⟨rfl, below_drewN' HB4.out _⟩

theorem one_walk (A : Option Addr) (len cap : Nat) (l : List ByteArray) (n : Int) (key : ByteArray) (w : World) (hl : Strs w A len cap l) :
    Calls Try.prog 8 #[.agg #[.slice A len cap, .int .i64 n], .string key] w fun e w' => e = .returned (.bool true) ∧ Below w.heap.size w w' := by
  by_cases hz : newE l n = 0
  · cases hk : isK key with
    | false => exact one_none A len cap l n key w hl hz hk
    | true => exact one_ok A len cap l n key w hl hz hk
  · exact one_bad A len cap l n key w hl hz

end Rt
end Go.Proofs.Ytpkiiimbichooaa
