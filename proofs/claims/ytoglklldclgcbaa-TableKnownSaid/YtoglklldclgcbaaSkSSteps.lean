/-
  Walks: 'Steps' of a list of string.
-/
import Derived.Test.YtoglklldclgcbaaSkSReads
namespace Go.Proofs.Ytoglklldclgcbaa
open Go.RowKit Sk
namespace SkS

set_option maxHeartbeats 400000 in
theorem Steps_some (L : Nat) (key : ByteArray) (H N : Nd) (l : List Nd) (w : World) (h : Is w L H l) (hl : seek ndk key l = some N) :
    Calls Try.prog 47 #[.pointer (some ⟨L, 0, none⟩), .string key] w fun e w' =>
      e = .returned (.int .i64 N.i.s) ∧ Below w.heap.size w w' := by
  have hval : w.cell? ⟨N.b, 2, none⟩ = some (.int .i64 N.i.s) := h.mem.steps (List.mem_cons_of_mem _ (seek_mem ndk hl).1)
  have HC := Lib.hid (find_some L key H N l w h hl)
  have HV := Lib.hid hval
  have HLT := Lib.hid (World.block_lt_of_cell? w _ hval)
  clear h hl hval
  go_enter Try.func47, Try.ntmps47
  go_wp2_with fail
  refine HC.out.mono ?_
  rintro e w1 ⟨rfl, hb⟩
  have c1 : w1.cell? ⟨N.b, 2, none⟩ = some (.int .i64 N.i.s) := (hb.cell (p := ⟨N.b, 2, none⟩) HLT.out).trans HV.out
  have HB := Lib.hid hb
  clear hb
  go_wp2
  go_ret
  exact ⟨rfl, HB.out⟩

set_option maxHeartbeats 400000 in
theorem Steps_none (L : Nat) (key : ByteArray) (H : Nd) (l : List Nd) (w : World) (h : Is w L H l) (hl : seek ndk key l = none) :
    Calls Try.prog 47 #[.pointer (some ⟨L, 0, none⟩), .string key] w fun e w' =>
      e = .returned (.int .i64 0) ∧ Below w.heap.size w w' := by
  have HC := Lib.hid (find_none L key H l w h hl)
  clear h hl
  go_enter Try.func47, Try.ntmps47
  go_wp2_with fail
  refine HC.out.mono ?_
  rintro e w1 ⟨rfl, hb⟩
  have HB := Lib.hid hb
  clear hb
  go_wp2
  go_ret
  exact ⟨rfl, HB.out⟩

end SkS
end Go.Proofs.Ytoglklldclgcbaa
