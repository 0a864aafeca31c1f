/-
  Walk: the law RouteJoins.
-/
import Derived.Test.YtpkiiimbichooaaRtKeysWalk
namespace Go.Proofs.Ytpkiiimbichooaa
open Go.RowKit Sk
namespace Rt

set_option maxRecDepth 100000 in
set_option maxHeartbeats 2000000 in
/-- a plan that may not be -/
theorem joins_bad (A : Option Addr) (len cap : Nat) (l : List ByteArray) (n : Int) (w : World) (hl : Strs w A len cap l) (hz : newE l n ≠ 0) :
    Calls Try.prog 7 #[.agg #[.slice A len cap, .int .i64 n]] w fun e w' => e = .returned (.bool true) ∧ Below w.heap.size w w' := by
  have HL := Lib.hid hl
  have hd1 : decide (newE l n = 0) = false := by simpa using hz
  have hd2 : (newE l n != 0) = true := by simpa using hz
  have HZ := Lib.hid hz
  clear hl hz
  go_enter Try.func7, Try.ntmps7
  go_wp2_with fail
  refine (works_any _).mono ?_
  rintro e w1 ⟨rfl, hb⟩
  have H1 : Hid (Below w.heap.size w w1) := by
    show Below _ _ _
    refine Below.trans ?_ (hb.mono (by simp))
    first
      | exact ((Below.refl _ _).alloc (Nat.le_refl _) _)
      | exact ((Below.refl _ _).alloc (Nat.le_refl _) _).alloc (by simp) _
  have c0 : w1.cell? ⟨w.heap.size, 0, none⟩ = some (.slice A len cap) := (hb.cell (p := ⟨w.heap.size, 0, none⟩) (by simp)).trans (by go_simp)
  have c1 : w1.cell? ⟨w.heap.size, 1, none⟩ = some (.int .i64 n) := (hb.cell (p := ⟨w.heap.size, 1, none⟩) (by simp)).trans (by go_simp)
  have h2 := New_any A len cap l n w1 (HL.out.below H1.out)
  have H2 := Lib.hid (h2.mono (R' := fun e w' => e = .returned (.tuple #[.pointer none, .int .i64 (newE l n)]) ∧ w1 = w') fun e w' h => by
    rcases h with ⟨_, he, hw⟩ | ⟨h0, _⟩
    · exact ⟨he, hw⟩
    · exact absurd h0 HZ.out)
  clear h2 hb
  generalize newE l n = c at *
  go_wp2_with fail
  refine H2.out.mono ?_
  rintro e w' ⟨rfl, rfl⟩
  go_wp2
  go_ret
  exact ⟨rfl, H1.out⟩

def JoinRel (E : List ByteArray) (m : Nat) (w : World) (cnt : Nat) (s5 s6 : Value) (w1 : World) : Prop := ∃ k, k + cnt = m ∧ s5 = .string (ed E k) ∧ s6 = .int .i64 (k : Nat) ∧ Below w.heap.size w w1

set_option maxRecDepth 100000 in
set_option maxHeartbeats 4000000 in
theorem joins_ok (A : Option Addr) (len cap : Nat) (l : List ByteArray) (n : Int) (w : World) (hl : Strs w A len cap l) (hz : newE l n = 0) :
    Calls Try.prog 7 #[.agg #[.slice A len cap, .int .i64 n]] w fun e w' => e = .returned (.bool true) ∧ Below w.heap.size w w' := by
  have HL := Lib.hid hl
  obtain ⟨h6, hok, hn, hn4⟩ := newE_zero hz
  obtain ⟨m, hm⟩ : ∃ m, m = l.length + 1 := ⟨_, rfl⟩
  have hE : (edges l).length = m + 1 := by rw [edges_length]; omega
  have hm6 : m ≤ 6 := by omega
  have HO := Lib.hid (And.intro h6 hok)
  have HE := Lib.hid hE
  have HT : Hid (ed (edges l) m = top) := by show _ = _; rw [hm]; exact ed_top l
  have HA : Hid (∀ k, k < m → kl (ed (edges l) k) (ed (edges l) (k + 1)) = true) := fun k hk => ed_asc (asc_edges hok) (by omega) (by omega)
  clear hl hz h6 hok hm hE
  go_enter Try.func7, Try.ntmps7
  go_wp2_with fail
  refine (works_any _).mono ?_
  rintro e w1 ⟨rfl, hb⟩
  have H1 : Hid (Below w.heap.size w w1) := ((Below.refl _ _).alloc (Nat.le_refl _) _).trans (hb.mono (by simp))
  have c0 : w1.cell? ⟨w.heap.size, 0, none⟩ = some (.slice A len cap) := (hb.cell (p := ⟨w.heap.size, 0, none⟩) (by simp)).trans (by go_simp)
  have c1 : w1.cell? ⟨w.heap.size, 1, none⟩ = some (.int .i64 n) := (hb.cell (p := ⟨w.heap.size, 1, none⟩) (by simp)).trans (by go_simp)
  have H2 := Lib.hid (New_ok A len cap l n w1 (HL.out.below H1.out) HO.out.1 HO.out.2 hn hn4)
  clear hb
  go_wp2_with fail
  refine H2.out.mono ?_
  rintro e wc ⟨R, rfl, hr, hb⟩
  have HB := Lib.hid hb
  have HR := Lib.hid hr
  clear hr hb c0 c1 H2
  go_wp2_with fail
  go_loopg [5, 6] m (fun cnt s5 s6 wr => JoinRel (edges l) m wc cnt s5 s6 wr)
  case atStart => exact ⟨0, by omega, rfl, rfl, Below.refl _ _⟩
  case round =>
    obtain ⟨k, hk, rfl, rfl, hbel⟩ := hrel
    have HKK := Lib.hid hk
    have HBL := Lib.hid hbel
    have hr := HR.out.below hbel
    have H4 := Lib.hid (Shards_m hr hn HE.out hm6)
    by_cases hlt : k < m
    · have H5 := Lib.hid (Span_m hr hn HE.out hm6 k hlt)
      have hkl := HA.out k hlt
      have HN : Hid (∀ w2, Below wc.heap.size wc w2 → JoinRel (edges l) m wc (m - (k + 1)) (.string (ed (edges l) (k + 1))) (.int .i64 ((k : Int) + 1)) w2) := fun w2 h => ⟨k + 1, by omega, rfl, by simp, h⟩
      generalize ed (edges l) k = x at *
      generalize ed (edges l) (k + 1) = y at *
      have t1 : (x.toList != x.toList) = false := by simp
      have t2 : Op.bytesLess y.toList x.toList = false := kl_asymm hkl
      have t3 : (y.toList == x.toList) = false := keq_false (fun e => by rw [e, kl_irrefl] at hkl; cases hkl)
      clear hk hbel hr hkl
      go_wp2_with fail
      refine H4.out.mono ?_
      rintro e w' ⟨rfl, rfl⟩
      go_wp2_with fail
      refine H5.out.mono ?_
      rintro e w3 ⟨rfl, hb3⟩
      have B3 := Lib.hid (HBL.out.trans (hb3.mono HBL.out.size))
      clear hb3
      go_wp2
      go_roundg (m - (k + 1))
      case measure => have := HKK.out; omega
      case rel => exact HN.out _ (B3.out.alloc B3.out.size _)
    · have hkm : k = m := by omega
      have ek : decide (m < m) = false := by simp
      have ek2 : decide ((m : Int) < (m : Int)) = false := by simp
      subst hkm
      have HF : Hid (Below w.heap.size w wr) := H1.out.trans ((HB.out.trans (hbel.mono HB.out.size)).mono H1.out.size)
      rw [HT.out]
      have tt : (top.toList == top.toList) = true := by simp
      clear hk hbel hr hlt
      go_wp2_with fail
      refine H4.out.mono ?_
      rintro e w' ⟨rfl, rfl⟩
      go_wp2_with fail
      refine (repeat_top _).mono ?_
      rintro e w4 ⟨rfl, hb4⟩
      have HF4 := Lib.hid (HF.out.trans (hb4.mono HF.out.size))
      clear hb4
      go_wp2
      go_ret
      exact ⟨rfl, HF4.out⟩

theorem joins_walk (A : Option Addr) (len cap : Nat) (l : List ByteArray) (n : Int) (w : World) (hl : Strs w A len cap l) :
    Calls Try.prog 7 #[.agg #[.slice A len cap, .int .i64 n]] w fun e w' => e = .returned (.bool true) ∧ Below w.heap.size w w' := by
  by_cases hz : newE l n = 0
  · exact joins_ok A len cap l n w hl hz
  · exact joins_bad A len cap l n w hl hz

end Rt
end Go.Proofs.Ytpkiiimbichooaa
