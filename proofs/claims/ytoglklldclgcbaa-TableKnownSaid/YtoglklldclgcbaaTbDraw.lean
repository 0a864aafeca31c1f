/-
  Walks: a table's draw of steps: from 1 to 16.
-/
import Derived.Test.YtoglklldclgcbaaSkSReads
namespace Go.Proofs.Ytoglklldclgcbaa
open Go.RowKit Sk
namespace Tb

def DrawRel (w : World) (cnt : Nat) (s2 s3 : Value) (w1 : World) : Prop := ∃ (y : Int) (n : Nat), s2 = .int .u64 y ∧ s3 = .int .i64 (n : Nat) ∧ 1 ≤ n ∧ n + cnt = 16 ∧ w1 = w

set_option maxHeartbeats 1000000 in
theorem draw_any (x : Nat) (a : Int) (w : World) (hc : w.cell? ⟨x, 0, none⟩ = some (.int .u64 a)) (hf : w.frozen? ⟨x, 0, none⟩ = false) :
    Calls Try.prog 48 #[.pointer (some ⟨x, 0, none⟩)] w fun e w' => ∃ (n : Nat) (a' : Int), 1 ≤ n ∧ n ≤ 16 ∧ e = .returned (.int .i64 n) ∧ w' = w.setCell ⟨x, 0, none⟩ (.int .u64 a') := by
  go_enter Try.func48, Try.ntmps48
  go_wp2
  generalize IntKind.u64.wrap (a + 11400714819323198485) = a'
  have HW : Hid (∃ W, W = w.setCell ⟨x, 0, none⟩ (.int .u64 a')) := ⟨_, rfl⟩
  obtain ⟨W, hW⟩ := HW.out
  rw [← hW]
  have HWW := Lib.hid hW
  clear HW hW hc hf
  go_loopg [2, 3] 15 (fun cnt s2 s3 w1 => DrawRel W cnt s2 s3 w1)
  case atStart => exact ⟨_, 1, rfl, rfl, by omega, by omega, rfl⟩
  case round =>
    obtain ⟨y, n, rfl, rfl, hn, hcnt, rfl⟩ := hrel
    have HK := Lib.hid (And.intro hn hcnt)
    have hnb : (n : Int) ≤ 16 := by omega
    by_cases hlt : n < 16
    · have b1 : (n : Int) < 16 := by omega
      clear hcnt hn
      go_wp2
      · go_roundg (16 - (n + 1))
        case measure => have := HK.out; omega
        case rel => exact ⟨_, n + 1, rfl, by simp, by omega, by omega, rfl⟩
      · go_ret
        exact ⟨n, a', HK.out.1, by omega, rfl, HWW.out⟩
    · have ek : decide ((n : Int) < 16) = false := by simp; omega
      have ek2 : decide (n < 16) = false := by simp; omega
      clear hcnt hn
      go_wp2
      go_ret
      exact ⟨n, a', HK.out.1, by omega, rfl, HWW.out⟩

end Tb
end Go.Proofs.Ytoglklldclgcbaa
