/-
  Walk: the law TableMoves.
-/
import Derived.Test.YtoglklldclgcbaaTbMovesFew
import Derived.Test.YtoglklldclgcbaaTbMovesMuch
namespace Go.Proofs.Ytoglklldclgcbaa
open Go.RowKit Go.Shelf Sk
namespace Tb

theorem moves_walk (A : Option Addr) (len cap : Nat) (ls : List (List Chg)) (frm tt : ByteArray) (w : World) (hb : Bts w A len cap ls) (hk : ∀ l ∈ ls, ∀ o ∈ l, o.k.size ≤ reachBytes) :
    Calls Try.prog 5 #[.slice A len cap, .string frm, .string tt] w fun e w' => e = .returned (.bool true) ∧ Below w.heap.size w w' := by
  rcases Nat.lt_or_ge 10 len with h | h
  · exact moves_much A len cap ls frm tt w hb hk h
  · exact moves_few A len cap ls frm tt w hb hk h

end Tb
end Go.Proofs.Ytoglklldclgcbaa
