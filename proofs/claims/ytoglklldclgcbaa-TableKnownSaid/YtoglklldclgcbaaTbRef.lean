/-
  Walks: the reference's table (scriptoriumref10): Check.
-/
import Derived.Test.YtoglklldclgcbaaTbApply
namespace Go.Proofs.Ytoglklldclgcbaa
open Go.RowKit Sk
namespace Tb

def ChkRel (l : List Chg) (w : World) (cnt : Nat) (s : Value) (w1 : World) : Prop := ∃ k, k + cnt = l.length ∧ s = .int .i64 (k : Nat) ∧ (∀ j o, j < k → l[j]? = some o → badC o = false) ∧ w1 = w

set_option maxHeartbeats 1000000 in
theorem Check_ref (A : Option Addr) (len cap : Nat) (l : List Chg) (w : World) (ho : Ops w A len cap l) :
    Calls Try.prog 38 #[.slice A len cap] w fun e w' => e = .returned (.int .i64 (chkO l)) ∧ w = w' := by
  obtain rfl := ho.hlen
  have HO := Lib.hid ho
  by_cases hl : 128 < l.length
  · have hd : decide ((128 : Int) < (l.length : Int)) = true := by simp; omega
    have HC : Hid (chkO l = 5) := by show _ = _; unfold chkO; rw [if_pos hl]
    clear ho
    go_enter Try.func38, Try.ntmps38
    go_wp2
    go_ret
    exact ⟨by rw [HC.out]; rfl, rfl⟩
  · have hd : decide ((128 : Int) < (l.length : Int)) = false := by simp; omega
    have hl8 : l.length ≤ 128 := by omega
    obtain ⟨n, hn⟩ : ∃ n, n = l.length := ⟨_, rfl⟩
    have HLN := Lib.hid hn
    rw [← hn] at hd hl8 ⊢
    clear ho hl hn
    go_enter Try.func38, Try.ntmps38
    go_wp2
    go_loopg [3] n (fun cnt s w1 => ChkRel l w cnt s w1)
    case atStart => exact ⟨0, by have := HLN.out; omega, rfl, fun j o hj => by omega, rfl⟩
    case round =>
      obtain ⟨k, hk, rfl, hall, rfl⟩ := hrel
      rw [← HLN.out] at hk
      have HK := Lib.hid hk
      have HALL := Lib.hid hall
      by_cases hlt : k < n
      · obtain ⟨o, hq⟩ : ∃ o, l[k]? = some o := ⟨_, List.getElem?_eq_getElem (show k < l.length by rw [← HLN.out]; exact hlt)⟩
        obtain ⟨g, f, rfl, x0, x1, x2⟩ := HO.out.cell k o hq
        have b1 : (k : Int) < (n : Int) := by omega
        have b2 : (0 : Int) ≤ (k : Int) := by omega
        obtain ⟨ck, cv, cd⟩ := o
        have HFB : Hid (badC ⟨ck, cv, cd⟩ = true → chkO l = 2) := fun hb => by
          unfold chkO
          rw [if_neg (by have := HLN.out; omega), if_pos (List.any_eq_true.2 ⟨_, List.mem_of_getElem? hq, hb⟩)]
        have HFN : Hid (badC ⟨ck, cv, cd⟩ = false → ChkRel l wr (n - (k + 1)) (.int .i64 ((k : Int) + 1)) wr) := fun hb => ⟨k + 1, by rw [← HLN.out]; omega, by simp, fun j o hj ho => by
          by_cases e : j = k
          · subst e; rw [hq] at ho; injection ho with ho; rw [← ho]; exact hb
          · exact HALL.out j o (by omega) ho, rfl⟩
        have HEB := Lib.hid (show badC ⟨ck, cv, cd⟩ = (ck.toList.isEmpty || (cd && !cv.toList.isEmpty)) from rfl)
        simp only at x0 x1 x2
        clear hall hk hq
        cases e1 : ck.toList.isEmpty with
        | true =>
          have HF := Lib.hid (HFB.out (by rw [HEB.out, e1]; rfl))
          go_wp2
          go_ret
          exact ⟨by rw [HF.out]; rfl, rfl⟩
        | false =>
          cases cd with
          | false =>
            have HF := Lib.hid (HFN.out (by rw [HEB.out, e1]; rfl))
            go_wp2
            go_roundg (n - (k + 1))
            case measure => have := HK.out; omega
            case rel => exact HF.out
          | true =>
            cases e2 : cv.toList.isEmpty with
            | true =>
              have HF := Lib.hid (HFN.out (by rw [HEB.out, e1, e2]; rfl))
              go_wp2
              go_roundg (n - (k + 1))
              case measure => have := HK.out; omega
              case rel => exact HF.out
            | false =>
              have HF := Lib.hid (HFB.out (by rw [HEB.out, e1, e2]; rfl))
              go_wp2
              go_ret
              exact ⟨by rw [HF.out]; rfl, rfl⟩
      · have ek : decide ((k : Int) < (n : Int)) = false := by simp; omega
        have ek2 : decide (k < n) = false := by simp; omega
        have HC : Hid (chkO l = 0) := by
          have h0 : l.any badC = false := by
            rw [List.any_eq_false]
            intro o ho
            obtain ⟨j, hj⟩ := List.mem_iff_getElem?.1 ho
            have hjl := (List.getElem?_eq_some_iff.1 hj).1
            rw [HALL.out j o (by have := HLN.out; omega) hj]
            simp
          show _ = _
          unfold chkO
          rw [if_neg (by have := HLN.out; omega), if_neg (by rw [h0]; simp)]
        clear hall hk hlt
        go_wp2
        go_ret
        exact ⟨by rw [HC.out]; rfl, rfl⟩

end Tb
end Go.Proofs.Ytoglklldclgcbaa
