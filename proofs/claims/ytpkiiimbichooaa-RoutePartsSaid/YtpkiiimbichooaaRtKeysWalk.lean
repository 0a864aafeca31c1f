/-
  Walk: the law RouteKeys.
-/
import Derived.Test.YtpkiiimbichooaaRtWorks
namespace Go.Proofs.Ytpkiiimbichooaa
open Go.RowKit Sk
namespace Rt

section
variable {B R : Nat} {E : List ByteArray} {n : Int} {w : World} {m : Nat}
theorem Shards_m (h : Are B w R E n) (hn : 1 ≤ n) (hm : E.length = m + 1) (h6 : m ≤ 6) :
    Calls Try.prog 13 #[RP R] w fun e w' => e = .returned (.int .i64 (m : Nat)) ∧ w = w' := by
  have := Shards_any h hn ⟨by omega, by omega⟩
  rw [hm, Nat.add_sub_cancel] at this
  exact this
theorem Span_m (h : Are B w R E n) (hn : 1 ≤ n) (hm : E.length = m + 1) (h6 : m ≤ 6) (i : Nat) (hi : i < m) :
    Calls Try.prog 14 #[RP R, .int .i64 i] w fun e w' => e = .returned (.tuple #[Sp (ed E i) (ed E (i + 1)), .int .i64 0]) ∧ Below w.heap.size w w' :=
  Span_in h hn ⟨by omega, by omega⟩ i (by omega)
theorem Node_m (h : Are B w R E n) (hn : 1 ≤ n) (hn4 : n ≤ 4) (hm : E.length = m + 1) (h6 : m ≤ 6) (i : Nat) (hi : i < m) :
    Calls Try.prog 17 #[RP R, .int .i64 i] w fun e w' => e = .returned (.tuple #[.int .i64 (1 + (i : Int) % n), .int .i64 0]) ∧ w = w' :=
  Node_in h hn hn4 ⟨by omega, by omega⟩ i (by omega)
end

theorem node_in {n : Int} (hn : 1 ≤ n) (i : Nat) : 1 ≤ 1 + (i : Int) % n ∧ 1 + (i : Int) % n ≤ n := by
  have q1 : (0 : Int) ≤ (i : Int) % n := Int.emod_nonneg _ (by omega)
  have q2 := Int.emod_lt_of_pos (i : Int) (show 0 < n by omega)
  omega
theorem chk_ed {l : List ByteArray} (h : okB l = true) {i : Nat} (hi : i < l.length + 1) : chk (ed (edges l) i) (ed (edges l) (i + 1)) = 0 := by
  unfold chk
  have a := ed_size h i
  have b := ed_size h (i + 1)
  rw [if_neg (by omega), if_pos (ed_asc (asc_edges h) (by omega) (by rw [edges_length]; omega))]

def StepRel (m : Nat) (w : World) (cnt : Nat) (s : Value) (w1 : World) : Prop := ∃ k, k + cnt = m ∧ s = .int .i64 (k : Nat) ∧ Below w.heap.size w w1

set_option maxRecDepth 100000 in
set_option maxHeartbeats 2000000 in
/-- a plan that may not be -/
theorem keys_bad (A : Option Addr) (len cap : Nat) (l : List ByteArray) (n : Int) (key : ByteArray) (w : World) (hl : Strs w A len cap l) (hz : newE l n ≠ 0) :
    Calls Try.prog 3 #[.agg #[.slice A len cap, .int .i64 n], .string key] w fun e w' => e = .returned (.bool true) ∧ Below w.heap.size w w' := by
  have HL := Lib.hid hl
  have hd1 : decide (newE l n = 0) = false := by simpa using hz
  have hd2 : (newE l n != 0) = true := by simpa using hz
  have HZ := Lib.hid hz
  clear hl hz
  go_enter Try.func3, Try.ntmps3
  go_wp2_with fail
  refine (works_any _).mono ?_
  rintro e w1 ⟨rfl, hb⟩
  have H1 : Hid (Below w.heap.size w w1) := ((Below.refl _ _).alloc (Nat.le_refl _) _).trans (hb.mono (by simp))
  have c0 : w1.cell? ⟨w.heap.size, 0, none⟩ = some (.slice A len cap) := (hb.cell (p := ⟨w.heap.size, 0, none⟩) (by simp)).trans (by go_simp)
  have c1 : w1.cell? ⟨w.heap.size, 1, none⟩ = some (.int .i64 n) := (hb.cell (p := ⟨w.heap.size, 1, none⟩) (by simp)).trans (by go_simp)
  have h2 := New_any A len cap l n w1 (HL.out.below H1.out)
  have H2 := Lib.hid (h2.mono (R' := fun e w' => e = .returned (.tuple #[.pointer none, .int .i64 (newE l n)]) ∧ w1 = w') fun e w' h => by
    rcases h with ⟨_, he, hw⟩ | ⟨h0, _⟩
    · exact ⟨he, hw⟩
    · exact absurd h0 HZ.out)
  clear h2 hb
  generalize newE l n = c at *
  go_wp2_with fail
  refine H2.out.mono ?_
  rintro e w' ⟨rfl, rfl⟩
  go_wp2
  go_ret
  exact ⟨rfl, H1.out⟩

set_option maxRecDepth 100000 in
set_option maxHeartbeats 2000000 in
/-- a key that may not be -/
theorem keys_none (A : Option Addr) (len cap : Nat) (l : List ByteArray) (n : Int) (key : ByteArray) (w : World) (hl : Strs w A len cap l) (hz : newE l n = 0) (hk : isK key = false) :
    Calls Try.prog 3 #[.agg #[.slice A len cap, .int .i64 n], .string key] w fun e w' => e = .returned (.bool true) ∧ Below w.heap.size w w' := by
  have HL := Lib.hid hl
  obtain ⟨h6, hok, hn, hn4⟩ := newE_zero hz
  have HO := Lib.hid (And.intro h6 hok)
  have HK := Lib.hid hk
  have hkey : (key.toList = [] ∧ key.toList.isEmpty = true) ∨ (¬ key.toList = [] ∧ key.toList.isEmpty = false ∧ decide ((32 : Int) < (key.size : Int)) = true) := by
    unfold isK at hk
    rw [decide_eq_false_iff_not] at hk
    by_cases h0 : key.size = 0
    · have : key.toList = [] := by rw [← List.length_eq_zero_iff, size_toList]; exact h0
      exact .inl ⟨this, by rw [this]; rfl⟩
    · have : key.toList ≠ [] := by rw [← List.length_pos_iff, size_toList]; omega
      exact .inr ⟨this, by cases h : key.toList <;> simp_all, by simp; omega⟩
  clear hl hz h6 hok hk
  rcases hkey with ⟨k1, k2⟩ | ⟨k1, k2, k3⟩
  all_goals
    go_enter Try.func3, Try.ntmps3
    go_wp2_with fail
    refine (works_any _).mono ?_
    rintro e w1 ⟨rfl, hb⟩
    have H1 : Hid (Below w.heap.size w w1) := ((Below.refl _ _).alloc (Nat.le_refl _) _).trans (hb.mono (by simp))
    have c0 : w1.cell? ⟨w.heap.size, 0, none⟩ = some (.slice A len cap) := (hb.cell (p := ⟨w.heap.size, 0, none⟩) (by simp)).trans (by go_simp)
    have c1 : w1.cell? ⟨w.heap.size, 1, none⟩ = some (.int .i64 n) := (hb.cell (p := ⟨w.heap.size, 1, none⟩) (by simp)).trans (by go_simp)
    have H2 := Lib.hid (New_ok A len cap l n w1 (HL.out.below H1.out) HO.out.1 HO.out.2 hn hn4)
    clear hb
    go_wp2_with fail
    refine H2.out.mono ?_
    rintro e w2 ⟨R, rfl, hr, hb⟩
    have H3 := Lib.hid (Shard_out hr hn key HK.out)
    have HB := Lib.hid (H1.out.trans (hb.mono H1.out.size))
    clear hr hb
    go_wp2_with fail
    refine H3.out.mono ?_
    rintro e w' ⟨rfl, rfl⟩
    go_wp2
    go_ret
    exact ⟨rfl, HB.out⟩

set_option maxRecDepth 100000 in
set_option maxHeartbeats 4000000 in
theorem keys_ok (A : Option Addr) (len cap : Nat) (l : List ByteArray) (n : Int) (key : ByteArray) (w : World) (hl : Strs w A len cap l) (hz : newE l n = 0) (hk : isK key = true) :
    Calls Try.prog 3 #[.agg #[.slice A len cap, .int .i64 n], .string key] w fun e w' => e = .returned (.bool true) ∧ Below w.heap.size w w' := by
  have HL := Lib.hid hl
  obtain ⟨h6, hok, hn, hn4⟩ := newE_zero hz
  obtain ⟨k1, k2⟩ : 1 ≤ key.size ∧ key.size ≤ 32 := by unfold isK at hk; simpa using hk
  obtain ⟨s1, s2, s3, s4⟩ := shard_in hok k1 k2
  have hlen := hl.hlen
  obtain ⟨m, hm⟩ : ∃ m, m = l.length + 1 := ⟨_, rfl⟩
  have hE : (edges l).length = m + 1 := by rw [edges_length]; omega
  have hm6 : m ≤ 6 := by omega
  have HIN : Hid (∀ i, i < m → hs (ed (edges l) i) (ed (edges l) (i + 1)) key = decide (i = shard (edges l) key)) := fun i hi => shard_iff hok k1 k2 (i := i) (by omega)
  have HCK : Hid (∀ i, i < m → chk (ed (edges l) i) (ed (edges l) (i + 1)) = 0) := fun i hi => chk_ed hok (by omega)
  have HO := Lib.hid (And.intro h6 hok)
  have HK := Lib.hid (And.intro hk s3)
  have HE := Lib.hid hE
  have hd9 : ((m : Int) == (len : Int) + 1) = true := by simp; omega
  have hlb : (len : Int) ≤ 5 := by omega
  have hsm : shard (edges l) key < m := by omega
  have HA := Lib.hid (asc_edges hok)
  clear hl hz h6 hok hk hm hE k1 k2 s1 s2 s3 s4 hlen
  go_enter Try.func3, Try.ntmps3
  go_wp2_with fail
  refine (works_any _).mono ?_
  rintro e w1 ⟨rfl, hb⟩
  have H1 : Hid (Below w.heap.size w w1) := ((Below.refl _ _).alloc (Nat.le_refl _) _).trans (hb.mono (by simp))
  have c0 : w1.cell? ⟨w.heap.size, 0, none⟩ = some (.slice A len cap) := (hb.cell (p := ⟨w.heap.size, 0, none⟩) (by simp)).trans (by go_simp)
  have c1 : w1.cell? ⟨w.heap.size, 1, none⟩ = some (.int .i64 n) := (hb.cell (p := ⟨w.heap.size, 1, none⟩) (by simp)).trans (by go_simp)
  have H2 := Lib.hid (New_ok A len cap l n w1 (HL.out.below H1.out) HO.out.1 HO.out.2 hn hn4)
  have HC := Lib.hid (And.intro c0 c1)
  have HBX : Hid (w.heap.size < w1.heap.size) := World.block_lt_of_cell? w1 _ c0
  clear hb
  go_wp2_with fail
  refine H2.out.mono ?_
  rintro e w2 ⟨R, rfl, hr, hb⟩
  have H3 := Lib.hid (Shard_in hr hn HA.out (by rw [HE.out]; omega) key HK.out.1 HK.out.2)
  have HB2 := Lib.hid hb
  have HR2 := Lib.hid hr
  clear hr hb c0 c1
  go_wp2_with fail
  refine H3.out.mono ?_
  rintro e w' ⟨rfl, q, rfl⟩
  obtain ⟨wc, hwc⟩ : ∃ wc, w2.drewN q = wc := ⟨_, rfl⟩
  have HR := Lib.hid (HR2.out.below (below_drewN' (Below.refl _ _) q))
  have HB := Lib.hid (HB2.out.trans (below_drewN' (Below.refl _ w2) q))
  rw [hwc] at HR HB ⊢
  clear hwc HR2 HB2 H2 H3
  generalize shard (edges l) key = sh at *
  go_wp2_with fail
  go_loopg [9] m (fun cnt s wr => StepRel m wc cnt s wr)
  case atStart => exact ⟨0, by omega, rfl, Below.refl _ _⟩
  case round =>
    obtain ⟨k, hk, rfl, hbel⟩ := hrel
    have HKK := Lib.hid hk
    have HBL := Lib.hid hbel
    have hr := HR.out.below hbel
    have H4 := Lib.hid (Shards_m hr hn HE.out hm6)
    by_cases hlt : k < m
    · have H5 := Lib.hid (Span_m hr hn HE.out hm6 k hlt)
      have h6 := Check_any (ed (edges l) k) (ed (edges l) (k + 1))
      rw [HCK.out k hlt] at h6
      have H6 := Lib.hid h6
      have h7 := Has_any (ed (edges l) k) (ed (edges l) (k + 1)) key
      rw [HIN.out k hlt] at h7
      have H7 := Lib.hid h7
      generalize ed (edges l) k = x at *
      generalize ed (edges l) (k + 1) = y at *
      have hx : decide (k = sh) = ((k : Int) == (sh : Int)) := by rw [Bool.eq_iff_iff]; simp; omega
      rw [hx] at H7
      obtain ⟨bb, hbb⟩ : ∃ bb, bb = ((k : Int) == (sh : Int)) := ⟨_, rfl⟩
      rw [← hbb] at H7
      clear hk hbel hr h6 h7 hx
      have hbb2 : ((k : Int) == (sh : Int)) = bb := hbb.symm
      clear hbb
      go_wp2_with fail
      refine H4.out.mono ?_
      rintro e w' ⟨rfl, rfl⟩
      go_wp2_with fail
      refine H5.out.mono ?_
      rintro e w3 ⟨rfl, hb3⟩
      have B3 := Lib.hid (HBL.out.trans (hb3.mono HBL.out.size))
      clear hb3
      go_wp2_with fail
      refine (H6.out _).mono ?_
      rintro e w4 ⟨rfl, hb4⟩
      have B4 := Lib.hid ((B3.out.alloc B3.out.size _).trans (hb4.mono (by have := B3.out.size; simp; omega)))
      have d1 : w4.cell? ⟨w3.heap.size, 0, none⟩ = some (.string x) := (hb4.cell (p := ⟨w3.heap.size, 0, none⟩) (by simp)).trans (by go_simp)
      have d2 : w4.cell? ⟨w3.heap.size, 1, none⟩ = some (.string y) := (hb4.cell (p := ⟨w3.heap.size, 1, none⟩) (by simp)).trans (by go_simp)
      clear hb4
      go_wp2_with fail
      refine (H7.out _).mono ?_
      rintro e w5 ⟨rfl, hb5⟩
      have B5 := Lib.hid (B4.out.trans (hb5.mono B4.out.size))
      clear hb5
      cases bb
      all_goals
        go_wp2
        go_roundg (m - (k + 1))
        case measure => have := HKK.out; omega
        case rel => exact ⟨k + 1, by have := HKK.out; omega, by simp, B5.out⟩
    · have ek : decide (k < m) = false := by simp; omega
      have H5 := Lib.hid (Node_m hr hn hn4 HE.out hm6 sh hsm)
      have H8 : Hid (∀ q, Calls Try.prog 13 #[RP R] (wr.drewN q) fun e w' => e = .returned (.int .i64 (m : Nat)) ∧ w' = wr.drewN q) := fun q =>
        (Shards_m (hr.below (below_drewN' (Below.refl _ _) q)) hn HE.out hm6).mono fun _ _ ⟨a, b⟩ => ⟨a, b.symm⟩
      obtain ⟨x1, x2⟩ := node_in hn sh
      have c0 : wr.cell? ⟨w.heap.size, 0, none⟩ = some (.slice A len cap) := (hbel.cell (p := ⟨w.heap.size, 0, none⟩) (Nat.lt_of_lt_of_le HBX.out HB.out.size)).trans ((HB.out.cell (p := ⟨w.heap.size, 0, none⟩) HBX.out).trans HC.out.1)
      have c1 : wr.cell? ⟨w.heap.size, 1, none⟩ = some (.int .i64 n) := (hbel.cell (p := ⟨w.heap.size, 1, none⟩) (Nat.lt_of_lt_of_le HBX.out HB.out.size)).trans ((HB.out.cell (p := ⟨w.heap.size, 1, none⟩) HBX.out).trans HC.out.2)
      have HF : Hid (Below w.heap.size w wr) := H1.out.trans ((HB.out.trans (hbel.mono HB.out.size)).mono H1.out.size)
      generalize 1 + (sh : Int) % n = x at *
      have y1 : decide (1 ≤ x) = true := by simpa using x1
      have y2 : decide (x ≤ n) = true := by simpa using x2
      have y3 : decide ((0 : Int) ≤ (sh : Int)) = true := by simp
      have y4 : decide ((sh : Int) < (m : Int)) = true := by simp; omega
      have y5 : IntKind.i64.wrap ((len : Int) + 1) = (len : Int) + 1 := IntWalk.i64_in _ (by omega)
      have y6 : decide (sh < m) = true := by simp; omega
      clear hk hbel hr hlt
      go_wp2_with fail
      refine H4.out.mono ?_
      rintro e w' ⟨rfl, rfl⟩
      go_wp2_with fail
      refine H5.out.mono ?_
      rintro e w' ⟨rfl, rfl⟩
      go_wp2
      go_quiet ((go_at_call 13; exact Calls.quiet_of_same (H8.out _)))
      go_wp2
      go_ret
      exact ⟨rfl, below_drewN' HF.out _⟩

theorem keys_walk (A : Option Addr) (len cap : Nat) (l : List ByteArray) (n : Int) (key : ByteArray) (w : World) (hl : Strs w A len cap l) :
    Calls Try.prog 3 #[.agg #[.slice A len cap, .int .i64 n], .string key] w fun e w' => e = .returned (.bool true) ∧ Below w.heap.size w w' := by
  by_cases hz : newE l n = 0
  · cases hk : isK key with
    | false => exact keys_none A len cap l n key w hl hz hk
    | true => exact keys_ok A len cap l n key w hl hz hk
  · exact keys_bad A len cap l n key w hl hz

end Rt
end Go.Proofs.Ytpkiiimbichooaa
