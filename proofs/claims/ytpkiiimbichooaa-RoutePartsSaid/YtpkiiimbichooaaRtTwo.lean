/-
  Walks: the reference's spans (scriptoriumref16): Check, Has, In, check, has, with, ends: of two lists of one span each.
-/
import Derived.Test.YtpkiiimbichooaaRtTwoPlain
import Derived.Test.YtpkiiimbichooaaRtRefSpan
namespace Go.Proofs.Ytpkiiimbichooaa
open Go.RowKit Sk
namespace Rr
open Rt (Strs RP Sp em chk hs ri rb str_info le_of_kl withL ends2 has2 Asc StepRel)

set_option maxHeartbeats 400000 in
theorem Check_any (a b : ByteArray) (w : World) : Calls Try.prog 40 #[Sp a b] w fun e w' => e = .returned (.int .i64 (chk a b)) ∧ Below w.heap.size w w' := by
  by_cases ha : 33 < a.size
  · have hd : decide ((33 : Int) < (a.size : Int)) = true := by simp; omega
    have HF := Lib.hid (show chk a b = 5 by unfold chk; rw [if_pos (.inl ha)])
    go_enter Try.func40, Try.ntmps40
    go_wp2
    go_ret
    exact ⟨ri HF.out rfl, (Below.refl _ _).alloc (Nat.le_refl _) _⟩
  · have hd : decide ((33 : Int) < (a.size : Int)) = false := by simp; omega
    by_cases hb : 33 < b.size
    · have hd2 : decide ((33 : Int) < (b.size : Int)) = true := by simp; omega
      have HF := Lib.hid (show chk a b = 5 by unfold chk; rw [if_pos (.inr hb)])
      go_enter Try.func40, Try.ntmps40
      go_wp2
      go_ret
      exact ⟨ri HF.out rfl, (Below.refl _ _).alloc (Nat.le_refl _) _⟩
    · have hd2 : decide ((33 : Int) < (b.size : Int)) = false := by simp; omega
      cases hk : kl a b with
      | true =>
        have hk' : Op.bytesLess a.toList b.toList = true := hk
        have HF := Lib.hid (show chk a b = 0 by unfold chk; rw [if_neg (by omega), if_pos hk])
        clear hk
        go_enter Try.func40, Try.ntmps40
        go_wp2
        go_ret
        exact ⟨ri HF.out rfl, (Below.refl _ _).alloc (Nat.le_refl _) _⟩
      | false =>
        have hk' : Op.bytesLess a.toList b.toList = false := hk
        have HF := Lib.hid (show chk a b = 2 by unfold chk; rw [if_neg (by omega), if_neg (by rw [hk]; simp)])
        clear hk
        go_enter Try.func40, Try.ntmps40
        go_wp2
        go_ret
        exact ⟨ri HF.out rfl, (Below.refl _ _).alloc (Nat.le_refl _) _⟩
set_option maxHeartbeats 400000 in
theorem Has_any (a b key : ByteArray) (w : World) : Calls Try.prog 59 #[Sp a b, .string key] w fun e w' => e = .returned (.bool (hs a b key)) ∧ Below w.heap.size w w' := by
  cases ha : kl key a with
  | true =>
    have HF := Lib.hid (show hs a b key = false by unfold hs; rw [ha]; rfl)
    have h1 : Op.bytesLess key.toList a.toList = true := ha
    clear ha
    go_enter Try.func59, Try.ntmps59
    go_wp2
    go_ret
    exact ⟨rb HF.out rfl, (Below.refl _ _).alloc (Nat.le_refl _) _⟩
  | false =>
    have HF := Lib.hid (show hs a b key = kl key b by unfold hs; rw [ha]; simp)
    have h1 : Op.bytesLess key.toList a.toList = false := ha
    clear ha
    go_enter Try.func59, Try.ntmps59
    go_wp2
    go_ret
    exact ⟨rb HF.out rfl, (Below.refl _ _).alloc (Nat.le_refl _) _⟩

/-- one span lies at a block's head -/
structure One (w : World) (g : Nat) (a b : ByteArray) : Prop where
  c0 : w.cell? ⟨g, 0, none⟩ = some (.string a)
  c1 : w.cell? ⟨g, 1, none⟩ = some (.string b)
theorem One.below {w w' : World} {g : Nat} {a b : ByteArray} (h : One w g a b) (hb : Below w.heap.size w w') : One w' g a b :=
  ⟨(hb.cell (p := ⟨g, 0, none⟩) (World.block_lt_of_cell? w _ h.c0)).trans h.c0, (hb.cell (p := ⟨g, 1, none⟩) (World.block_lt_of_cell? w _ h.c1)).trans h.c1⟩
abbrev Sl (g c : Nat) : Value := .slice (some ⟨g, 0, none⟩) 1 c

def InR (p : Bool) (w : World) (cnt : Nat) (s : Value) (w1 : World) : Prop := (cnt = 1 ∧ s = .int .i64 0 ∧ w1 = w) ∨ (cnt = 0 ∧ s = .int .i64 1 ∧ p = true ∧ Below w.heap.size w w1)
set_option maxHeartbeats 400000 in
theorem In_one (g c : Nat) (a b key : ByteArray) (w : World) (h : One w g a b) : Calls Try.prog 58 #[Sl g c, .string key] w fun e w' => e = .returned (.bool (hs a b key)) ∧ Below w.heap.size w w' := by
  have HH := Lib.hid (Has_any a b key)
  generalize hs a b key = p at *
  have HO := Lib.hid h
  clear h
  go_enter Try.func58, Try.ntmps58
  go_wp2
  go_loopg [5] 1 (fun cnt s w1 => InR (!p) w cnt s w1)
  case atStart => exact .inl ⟨rfl, rfl, rfl⟩
  case round =>
    rcases hrel with ⟨hc, rfl, rfl⟩ | ⟨hc, rfl, hp, hbel⟩
    · have HC := Lib.hid hc
      have c0 := HO.out.c0
      have c1 := HO.out.c1
      clear hc
      cases p with
      | true =>
        go_wp2_with fail
        refine (HH.out _).mono ?_
        rintro e w1 ⟨rfl, hb⟩
        have HB := Lib.hid hb
        clear hb
        go_wp2
        go_ret
        exact ⟨rfl, HB.out⟩
      | false =>
        go_wp2_with fail
        refine (HH.out _).mono ?_
        rintro e w1 ⟨rfl, hb⟩
        have HB := Lib.hid hb
        clear hb
        go_wp2
        go_roundg 0
        case measure => have := HC.out; omega
        case rel => exact .inr ⟨rfl, rfl, rfl, HB.out⟩
    · have hp2 : p = false := by simpa using hp
      subst hp2
      have HB := Lib.hid hbel
      clear hbel hp
      go_wp2
      go_ret
      exact ⟨rfl, HB.out⟩

set_option maxHeartbeats 400000 in
theorem has_two (g1 c1 g2 c2 : Nat) (a b c d key : ByteArray) (w : World) (h1 : One w g1 a b) (h2 : One w g2 c d) :
    Calls Try.prog 56 #[Sl g1 c1, Sl g2 c2, .int .i64 1, .string key] w fun e w' => e = .returned (.bool (has2 a b c d key)) ∧ Below w.heap.size w w' := by
  have H1 := Lib.hid (In_one g1 c1 a b key w h1)
  have H2 : Hid (∀ w', Below w.heap.size w w' → Calls Try.prog 58 #[Sl g2 c2, .string key] w' fun e w'' => e = .returned (.bool (hs c d key)) ∧ Below w'.heap.size w' w'') := fun w' hb => In_one g2 c2 c d key w' (h2.below hb)
  unfold has2
  generalize hs a b key = p at *
  generalize hs c d key = q at *
  clear h1 h2
  cases p with
  | false =>
    go_enter Try.func56, Try.ntmps56
    go_wp2_with fail
    refine H1.out.mono ?_
    rintro e w1 ⟨rfl, hb⟩
    have HB := Lib.hid hb
    clear hb
    go_wp2
    go_ret
    exact ⟨rfl, HB.out⟩
  | true =>
    go_enter Try.func56, Try.ntmps56
    go_wp2_with fail
    refine H1.out.mono ?_
    rintro e w1 ⟨rfl, hb⟩
    have HB := Lib.hid hb
    have H3 := Lib.hid (H2.out w1 hb)
    clear hb
    go_wp2_with fail
    refine H3.out.mono ?_
    rintro e w2 ⟨rfl, hb⟩
    have HB2 := Lib.hid (HB.out.trans (hb.mono HB.out.size))
    clear hb
    go_wp2
    go_ret
    exact ⟨by cases q <;> rfl, HB2.out⟩

def ChR (w : World) (cnt : Nat) (s : Value) (w1 : World) : Prop := (cnt = 1 ∧ s = .int .i64 0 ∧ Below w.heap.size w w1) ∨ (cnt = 0 ∧ s = .int .i64 1 ∧ Below w.heap.size w w1)
set_option maxHeartbeats 1000000 in
theorem check_two (g1 c1 g2 c2 : Nat) (a b c d : ByteArray) (w : World) (h1 : One w g1 a b) (h2 : One w g2 c d) (k1 : chk a b = 0) (k2 : chk c d = 0) :
    Calls Try.prog 54 #[Sl g1 c1, Sl g2 c2] w fun e w' => e = .returned (.int .i64 0) ∧ Below w.heap.size w w' := by
  have hh1 := Check_any a b
  rw [k1] at hh1
  have H1 := Lib.hid hh1
  have hh2 := Check_any c d
  rw [k2] at hh2
  have H2 := Lib.hid hh2
  have HO := Lib.hid (And.intro h1 h2)
  clear h1 h2 k1 k2 hh1 hh2
  go_enter Try.func54, Try.ntmps54
  go_wp2
  go_loopg [5] 1 (fun cnt s w1 => ChR w cnt s w1)
  case atStart => exact .inl ⟨rfl, rfl, Below.refl _ _⟩
  case round =>
    rcases hrel with ⟨hc, rfl, hbel⟩ | ⟨hc, rfl, hbel⟩
    · have HC := Lib.hid hc
      have HB := Lib.hid hbel
      obtain ⟨x0, x1⟩ := HO.out.1.below hbel
      clear hc hbel
      go_wp2_with fail
      refine (H1.out _).mono ?_
      rintro e w1 ⟨rfl, hb⟩
      have HB1 := Lib.hid (HB.out.trans (hb.mono HB.out.size))
      clear hb
      go_wp2
      go_roundg 0
      case measure => have := HC.out; omega
      case rel => exact .inr ⟨rfl, rfl, HB1.out⟩
    · have HB := Lib.hid hbel
      clear hc hbel
      go_wp2
      go_loopg [7] 1 (fun cnt s w1 => ChR w cnt s w1)
      case atStart => exact .inl ⟨rfl, rfl, HB.out⟩
      case round =>
        clear HB
        rcases hrel with ⟨hc, rfl, hbel⟩ | ⟨hc, rfl, hbel⟩
        · have HC := Lib.hid hc
          have HB := Lib.hid hbel
          obtain ⟨x0, x1⟩ := HO.out.2.below hbel
          clear hc hbel
          go_wp2_with fail
          refine (H2.out _).mono ?_
          rintro e w1 ⟨rfl, hb⟩
          have HB1 := Lib.hid (HB.out.trans (hb.mono HB.out.size))
          clear hb
          go_wp2
          go_roundg 0
          case measure => have := HC.out; omega
          case rel => exact .inr ⟨rfl, rfl, HB1.out⟩
        · have HB := Lib.hid hbel
          clear hc hbel
          go_wp2
          go_ret
          exact ⟨rfl, HB.out⟩

end Rr
end Go.Proofs.Ytpkiiimbichooaa
