/-
  No cell of these rows narrows 'for every input' (looked for: loops, veiled, ifaces, maps, wideKeys, modest, calm, conditions, laid).
  DERIVED. THE GIVEN ROWS OF THIS SEAT. 8 by the template 'for every input the law returns true; each argument reads behind the call as it read before'; 0 by the template 'total and deterministic' (their statements: YtphfedkfbehigaaTotals.lean).
  GIVEN WITH THE SEED: the statements are not yours to turn. If you find one false, say at which input.
  Laid BY PROGRAM, IN A SANDBOX (cutbox-rows.mjs): the forced cells as the released guide's own fill.sh prints them over the translation e2068d4698ea7374… (all of the seat's roots in one cut). By AI agents, Wed Nov 11 2026. No macro, syntax, notation, axiom, sorry.
-/
import Derived.Test.YtphfedkfbehigaaChecked
import GoSem.Claim
import GoSem.ClaimJoined
import GoSem.ClaimMapViews
import Derived.JoinedTies
import Derived.KernelRfl
namespace Go.Proofs.Ytphfedkfbehigaa
/- THE CELL 'sum', in the pinned program and in every row, IS THE sha256 OF THE DUMP (.gsa) THAT YtphfedkfbehigaaProg.lean LOADS. Nothing in Lean hashes anything: it is a label: what it is worth is what the hold of that sum in a sandbox is worth. -/
noncomputable def Try.pinned : Pinned := { name := "ytphfedkfbehigaa", sum := "e2068d4698ea7374ca4379a9fffbfdf6706c8d235edbe1885f30034ff3404499", checked := Try.checked }
namespace Rows
def none {H : Type} : Left H := { results := [], args := [] }

/-- 'scriptoriumlaw09.SkipDoes': WHATEVER THE INPUT: true; the input reads as it did. -/
def skipDoesSpec : ChangeSpec := { name := "skipDoes", fn := fun _ => fun
  | [d] => { results := [.lit (.bool true)], args := [d] }
  | _ => none }
def skipDoesRow : OpenClaim := { program := "ytphfedkfbehigaa", sum := "e2068d4698ea7374ca4379a9fffbfdf6706c8d235edbe1885f30034ff3404499", func := "scriptorium/scriptoriumlaw09.SkipDoes", spec := "skipDoes", apart := false }
def SkipDoesSaid : Prop := skipDoesRow.holds Try.pinned (OpenSpec.ofChange skipDoesSpec)

/-- ITS FALSE NEIGHBOUR: 'it returns false'. Refute it at one input. -/
def skipDoesWrong : ChangeSpec := { name := "skipDoes", fn := fun _ => fun
  | [d] => { results := [.lit (.bool false)], args := [d] }
  | _ => none }
def SkipDoesWrongFalsely : Prop := skipDoesRow.holds Try.pinned (OpenSpec.ofChange skipDoesWrong)

/-- 'scriptoriumlaw09.SkipAsks': WHATEVER THE INPUT: true; the input reads as it did. -/
def skipAsksSpec : ChangeSpec := { name := "skipAsks", fn := fun _ => fun
  | [d1, d2] => { results := [.lit (.bool true)], args := [d1, d2] }
  | _ => none }
def skipAsksRow : OpenClaim := { program := "ytphfedkfbehigaa", sum := "e2068d4698ea7374ca4379a9fffbfdf6706c8d235edbe1885f30034ff3404499", func := "scriptorium/scriptoriumlaw09.SkipAsks", spec := "skipAsks", apart := false }
def SkipAsksSaid : Prop := skipAsksRow.holds Try.pinned (OpenSpec.ofChange skipAsksSpec)

/-- ITS FALSE NEIGHBOUR: 'it returns false'. Refute it at one input. -/
def skipAsksWrong : ChangeSpec := { name := "skipAsks", fn := fun _ => fun
  | [d1, d2] => { results := [.lit (.bool false)], args := [d1, d2] }
  | _ => none }
def SkipAsksWrongFalsely : Prop := skipAsksRow.holds Try.pinned (OpenSpec.ofChange skipAsksWrong)

/-- 'scriptoriumlaw09.SkipMap': WHATEVER THE INPUT: true; the input reads as it did. -/
def skipMapSpec : ChangeSpec := { name := "skipMap", fn := fun _ => fun
  | [d] => { results := [.lit (.bool true)], args := [d] }
  | _ => none }
def skipMapRow : OpenClaim := { program := "ytphfedkfbehigaa", sum := "e2068d4698ea7374ca4379a9fffbfdf6706c8d235edbe1885f30034ff3404499", func := "scriptorium/scriptoriumlaw09.SkipMap", spec := "skipMap", apart := false }
def SkipMapSaid : Prop := skipMapRow.holds Try.pinned (OpenSpec.ofChange skipMapSpec)

/-- ITS FALSE NEIGHBOUR: 'it returns false'. Refute it at one input. -/
def skipMapWrong : ChangeSpec := { name := "skipMap", fn := fun _ => fun
  | [d] => { results := [.lit (.bool false)], args := [d] }
  | _ => none }
def SkipMapWrongFalsely : Prop := skipMapRow.holds Try.pinned (OpenSpec.ofChange skipMapWrong)

/-- 'scriptoriumlaw09.SkipWalk': WHATEVER THE INPUT: true; the input reads as it did. -/
def skipWalkSpec : ChangeSpec := { name := "skipWalk", fn := fun _ => fun
  | [d] => { results := [.lit (.bool true)], args := [d] }
  | _ => none }
def skipWalkRow : OpenClaim := { program := "ytphfedkfbehigaa", sum := "e2068d4698ea7374ca4379a9fffbfdf6706c8d235edbe1885f30034ff3404499", func := "scriptorium/scriptoriumlaw09.SkipWalk", spec := "skipWalk", apart := false }
def SkipWalkSaid : Prop := skipWalkRow.holds Try.pinned (OpenSpec.ofChange skipWalkSpec)

/-- ITS FALSE NEIGHBOUR: 'it returns false'. Refute it at one input. -/
def skipWalkWrong : ChangeSpec := { name := "skipWalk", fn := fun _ => fun
  | [d] => { results := [.lit (.bool false)], args := [d] }
  | _ => none }
def SkipWalkWrongFalsely : Prop := skipWalkRow.holds Try.pinned (OpenSpec.ofChange skipWalkWrong)

/-- 'scriptoriumlaw09.SkipSteps': WHATEVER THE INPUT: true; the input reads as it did. -/
def skipStepsSpec : ChangeSpec := { name := "skipSteps", fn := fun _ => fun
  | [d] => { results := [.lit (.bool true)], args := [d] }
  | _ => none }
def skipStepsRow : OpenClaim := { program := "ytphfedkfbehigaa", sum := "e2068d4698ea7374ca4379a9fffbfdf6706c8d235edbe1885f30034ff3404499", func := "scriptorium/scriptoriumlaw09.SkipSteps", spec := "skipSteps", apart := false }
def SkipStepsSaid : Prop := skipStepsRow.holds Try.pinned (OpenSpec.ofChange skipStepsSpec)

/-- ITS FALSE NEIGHBOUR: 'it returns false'. Refute it at one input. -/
def skipStepsWrong : ChangeSpec := { name := "skipSteps", fn := fun _ => fun
  | [d] => { results := [.lit (.bool false)], args := [d] }
  | _ => none }
def SkipStepsWrongFalsely : Prop := skipStepsRow.holds Try.pinned (OpenSpec.ofChange skipStepsWrong)

/-- 'scriptoriumlaw09.SkipFree': WHATEVER THE INPUT: true; the input reads as it did. -/
def skipFreeSpec : ChangeSpec := { name := "skipFree", fn := fun _ => fun
  | [d1, d2, d3] => { results := [.lit (.bool true)], args := [d1, d2, d3] }
  | _ => none }
def skipFreeRow : OpenClaim := { program := "ytphfedkfbehigaa", sum := "e2068d4698ea7374ca4379a9fffbfdf6706c8d235edbe1885f30034ff3404499", func := "scriptorium/scriptoriumlaw09.SkipFree", spec := "skipFree", apart := false }
def SkipFreeSaid : Prop := skipFreeRow.holds Try.pinned (OpenSpec.ofChange skipFreeSpec)

/-- ITS FALSE NEIGHBOUR: 'it returns false'. Refute it at one input. -/
def skipFreeWrong : ChangeSpec := { name := "skipFree", fn := fun _ => fun
  | [d1, d2, d3] => { results := [.lit (.bool false)], args := [d1, d2, d3] }
  | _ => none }
def SkipFreeWrongFalsely : Prop := skipFreeRow.holds Try.pinned (OpenSpec.ofChange skipFreeWrong)

/-- 'scriptoriumlaw09.SkipBack': WHATEVER THE INPUT: true; the input reads as it did. -/
def skipBackSpec : ChangeSpec := { name := "skipBack", fn := fun _ => fun
  | [d1, d2, d3] => { results := [.lit (.bool true)], args := [d1, d2, d3] }
  | _ => none }
def skipBackRow : OpenClaim := { program := "ytphfedkfbehigaa", sum := "e2068d4698ea7374ca4379a9fffbfdf6706c8d235edbe1885f30034ff3404499", func := "scriptorium/scriptoriumlaw09.SkipBack", spec := "skipBack", apart := false }
def SkipBackSaid : Prop := skipBackRow.holds Try.pinned (OpenSpec.ofChange skipBackSpec)

/-- ITS FALSE NEIGHBOUR: 'it returns false'. Refute it at one input. -/
def skipBackWrong : ChangeSpec := { name := "skipBack", fn := fun _ => fun
  | [d1, d2, d3] => { results := [.lit (.bool false)], args := [d1, d2, d3] }
  | _ => none }
def SkipBackWrongFalsely : Prop := skipBackRow.holds Try.pinned (OpenSpec.ofChange skipBackWrong)

/-- 'scriptoriumlaw09.SkipKnown': WHATEVER THE INPUT: true; the input reads as it did. -/
def skipKnownSpec : ChangeSpec := { name := "skipKnown", fn := fun _ => fun
  | [] => { results := [.lit (.bool true)], args := [] }
  | _ => none }
def skipKnownRow : OpenClaim := { program := "ytphfedkfbehigaa", sum := "e2068d4698ea7374ca4379a9fffbfdf6706c8d235edbe1885f30034ff3404499", func := "scriptorium/scriptoriumlaw09.SkipKnown", spec := "skipKnown", inPlace := ["internal/abi.NoEscape", "internal/bytealg.MakeNoZero"], apart := false }
def SkipKnownSaid : Prop := skipKnownRow.holds Try.pinned (OpenSpec.ofChange skipKnownSpec)

/-- ITS FALSE NEIGHBOUR: 'it returns false'. Refute it at one input. -/
def skipKnownWrong : ChangeSpec := { name := "skipKnown", fn := fun _ => fun
  | [] => { results := [.lit (.bool false)], args := [] }
  | _ => none }
def SkipKnownWrongFalsely : Prop := skipKnownRow.holds Try.pinned (OpenSpec.ofChange skipKnownWrong)

/- THE SECOND FORM. 'bulk': how many values and letters a reading holds, each counted each time it is reached (what is shared counts as often as it is met; a slice's spare places count too). A statement '..UptoSaid' is the law's where the arguments, and the package variables that the reading takes, are together of bulk at most 1048576: NARROWER than '..Said'. Prove '..Said' where nothing that the law and all that it calls make is longer than what came in: it says more and counts as full. Else prove '..UptoSaid'. A law counts once. -/
mutual
def uptoBulk {H : Type} : DataW H → Nat
  | .lit (.string bytes) => bytes.length + 1
  | .lit _ => 1
  | .nil => 1
  | .ptr d => uptoBulk d + 1
  | .slice elems spare => uptoBulkAll elems + uptoBulkAll spare + 1
  | .agg parts => uptoBulkAll parts + 1
  | .iface _ d => uptoBulk d + 1
  | .map entries => uptoBulkEntries entries + 1
  | .held _ => 1
def uptoBulkAll {H : Type} : List (DataW H) → Nat
  | [] => 0
  | d :: r => uptoBulk d + uptoBulkAll r
def uptoBulkEntries {H : Type} : List (Lit × DataW H) → Nat
  | [] => 0
  | x :: r => uptoBulkEntry x + uptoBulkEntries r
def uptoBulkEntry {H : Type} : Lit × DataW H → Nat
  | (.string bytes, d) => bytes.length + uptoBulk d + 1
  | (_, d) => uptoBulk d + 1
 end
def uptoSmall : (H : Type) → List (DataW H) → Bool := fun _ ds => decide (uptoBulkAll ds ≤ 1048576)
def OpenSpec.upto (s : _root_.Go.ChangeSpec) : _root_.Go.OpenSpec := { _root_.Go.OpenSpec.ofChange s with cond := some uptoSmall }

/-- 'scriptoriumlaw09.SkipDoes', WHERE WHAT IT READS IS OF BULK AT MOST 1048576: true; the input reads as it did. -/
def skipDoesUptoRow : OpenClaim := { program := "ytphfedkfbehigaa", sum := "e2068d4698ea7374ca4379a9fffbfdf6706c8d235edbe1885f30034ff3404499", func := "scriptorium/scriptoriumlaw09.SkipDoes", spec := "skipDoes", apart := false, narrowed := true }
def SkipDoesUptoSaid : Prop := skipDoesUptoRow.holds Try.pinned (OpenSpec.upto skipDoesSpec)

/-- 'scriptoriumlaw09.SkipAsks', WHERE WHAT IT READS IS OF BULK AT MOST 1048576: true; the input reads as it did. -/
def skipAsksUptoRow : OpenClaim := { program := "ytphfedkfbehigaa", sum := "e2068d4698ea7374ca4379a9fffbfdf6706c8d235edbe1885f30034ff3404499", func := "scriptorium/scriptoriumlaw09.SkipAsks", spec := "skipAsks", apart := false, narrowed := true }
def SkipAsksUptoSaid : Prop := skipAsksUptoRow.holds Try.pinned (OpenSpec.upto skipAsksSpec)

/-- 'scriptoriumlaw09.SkipMap', WHERE WHAT IT READS IS OF BULK AT MOST 1048576: true; the input reads as it did. -/
def skipMapUptoRow : OpenClaim := { program := "ytphfedkfbehigaa", sum := "e2068d4698ea7374ca4379a9fffbfdf6706c8d235edbe1885f30034ff3404499", func := "scriptorium/scriptoriumlaw09.SkipMap", spec := "skipMap", apart := false, narrowed := true }
def SkipMapUptoSaid : Prop := skipMapUptoRow.holds Try.pinned (OpenSpec.upto skipMapSpec)

/-- 'scriptoriumlaw09.SkipWalk', WHERE WHAT IT READS IS OF BULK AT MOST 1048576: true; the input reads as it did. -/
def skipWalkUptoRow : OpenClaim := { program := "ytphfedkfbehigaa", sum := "e2068d4698ea7374ca4379a9fffbfdf6706c8d235edbe1885f30034ff3404499", func := "scriptorium/scriptoriumlaw09.SkipWalk", spec := "skipWalk", apart := false, narrowed := true }
def SkipWalkUptoSaid : Prop := skipWalkUptoRow.holds Try.pinned (OpenSpec.upto skipWalkSpec)

/-- 'scriptoriumlaw09.SkipSteps', WHERE WHAT IT READS IS OF BULK AT MOST 1048576: true; the input reads as it did. -/
def skipStepsUptoRow : OpenClaim := { program := "ytphfedkfbehigaa", sum := "e2068d4698ea7374ca4379a9fffbfdf6706c8d235edbe1885f30034ff3404499", func := "scriptorium/scriptoriumlaw09.SkipSteps", spec := "skipSteps", apart := false, narrowed := true }
def SkipStepsUptoSaid : Prop := skipStepsUptoRow.holds Try.pinned (OpenSpec.upto skipStepsSpec)

/-- 'scriptoriumlaw09.SkipFree', WHERE WHAT IT READS IS OF BULK AT MOST 1048576: true; the input reads as it did. -/
def skipFreeUptoRow : OpenClaim := { program := "ytphfedkfbehigaa", sum := "e2068d4698ea7374ca4379a9fffbfdf6706c8d235edbe1885f30034ff3404499", func := "scriptorium/scriptoriumlaw09.SkipFree", spec := "skipFree", apart := false, narrowed := true }
def SkipFreeUptoSaid : Prop := skipFreeUptoRow.holds Try.pinned (OpenSpec.upto skipFreeSpec)

/-- 'scriptoriumlaw09.SkipBack', WHERE WHAT IT READS IS OF BULK AT MOST 1048576: true; the input reads as it did. -/
def skipBackUptoRow : OpenClaim := { program := "ytphfedkfbehigaa", sum := "e2068d4698ea7374ca4379a9fffbfdf6706c8d235edbe1885f30034ff3404499", func := "scriptorium/scriptoriumlaw09.SkipBack", spec := "skipBack", apart := false, narrowed := true }
def SkipBackUptoSaid : Prop := skipBackUptoRow.holds Try.pinned (OpenSpec.upto skipBackSpec)

/-- 'scriptoriumlaw09.SkipKnown', WHERE WHAT IT READS IS OF BULK AT MOST 1048576: true; the input reads as it did. -/
def skipKnownUptoRow : OpenClaim := { program := "ytphfedkfbehigaa", sum := "e2068d4698ea7374ca4379a9fffbfdf6706c8d235edbe1885f30034ff3404499", func := "scriptorium/scriptoriumlaw09.SkipKnown", spec := "skipKnown", inPlace := ["internal/abi.NoEscape", "internal/bytealg.MakeNoZero"], apart := false, narrowed := true }
def SkipKnownUptoSaid : Prop := skipKnownUptoRow.holds Try.pinned (OpenSpec.upto skipKnownSpec)

end Rows
end Go.Proofs.Ytphfedkfbehigaa
