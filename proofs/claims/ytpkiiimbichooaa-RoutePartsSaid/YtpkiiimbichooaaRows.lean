/-
  No cell of these rows narrows 'for every input' (looked for: loops, veiled, ifaces, maps, wideKeys, modest, calm, conditions, laid).
  DERIVED. THE GIVEN ROWS OF THIS SEAT. 7 by the template 'for every input the law returns true; each argument reads behind the call as it read before'; 0 by the template 'total and deterministic' (their statements: YtpkiiimbichooaaTotals.lean).
  GIVEN WITH THE SEED: the statements are not yours to turn. If you find one false, say at which input.
  Laid BY PROGRAM, IN A SANDBOX (cutbox-rows.mjs): the forced cells as the released guide's own fill.sh prints them over the translation 357165b2b8950320… (all of the seat's roots in one cut). By AI agents, Wed Nov 11 2026. No macro, syntax, notation, axiom, sorry.
-/
import Derived.Test.YtpkiiimbichooaaChecked
import GoSem.Claim
import GoSem.ClaimJoined
import GoSem.ClaimMapViews
import Derived.JoinedTies
import Derived.KernelRfl
namespace Go.Proofs.Ytpkiiimbichooaa
/- THE CELL 'sum', in the pinned program and in every row, IS THE sha256 OF THE DUMP (.gsa) THAT YtpkiiimbichooaaProg.lean LOADS. Nothing in Lean hashes anything: it is a label: what it is worth is what the hold of that sum in a sandbox is worth. -/
noncomputable def Try.pinned : Pinned := { name := "ytpkiiimbichooaa", sum := "357165b2b8950320d6300e40965f430d78c1c4f6fc6e875efde55b2b6e9f2c94", checked := Try.checked }
namespace Rows
def none {H : Type} : Left H := { results := [], args := [] }

/-- 'scriptoriumlaw25.RouteKeys': WHATEVER THE INPUT: true; the input reads as it did. -/
def routeKeysSpec : ChangeSpec := { name := "routeKeys", fn := fun _ => fun
  | [d1, d2] => { results := [.lit (.bool true)], args := [d1, d2] }
  | _ => none }
def routeKeysRow : OpenClaim := { program := "ytpkiiimbichooaa", sum := "357165b2b8950320d6300e40965f430d78c1c4f6fc6e875efde55b2b6e9f2c94", func := "scriptorium/scriptoriumlaw25.RouteKeys", spec := "routeKeys", inPlace := ["internal/abi.NoEscape", "internal/bytealg.MakeNoZero"], apart := false }
def RouteKeysSaid : Prop := routeKeysRow.holds Try.pinned (OpenSpec.ofChange routeKeysSpec)

/-- ITS FALSE NEIGHBOUR: 'it returns false'. Refute it at one input. -/
def routeKeysWrong : ChangeSpec := { name := "routeKeys", fn := fun _ => fun
  | [d1, d2] => { results := [.lit (.bool false)], args := [d1, d2] }
  | _ => none }
def RouteKeysWrongFalsely : Prop := routeKeysRow.holds Try.pinned (OpenSpec.ofChange routeKeysWrong)

/-- 'scriptoriumlaw25.RouteCovers': WHATEVER THE INPUT: true; the input reads as it did. -/
def routeCoversSpec : ChangeSpec := { name := "routeCovers", fn := fun _ => fun
  | [d1, d2, d3] => { results := [.lit (.bool true)], args := [d1, d2, d3] }
  | _ => none }
def routeCoversRow : OpenClaim := { program := "ytpkiiimbichooaa", sum := "357165b2b8950320d6300e40965f430d78c1c4f6fc6e875efde55b2b6e9f2c94", func := "scriptorium/scriptoriumlaw25.RouteCovers", spec := "routeCovers", inPlace := ["internal/abi.NoEscape", "internal/bytealg.MakeNoZero"], apart := false }
def RouteCoversSaid : Prop := routeCoversRow.holds Try.pinned (OpenSpec.ofChange routeCoversSpec)

/-- ITS FALSE NEIGHBOUR: 'it returns false'. Refute it at one input. -/
def routeCoversWrong : ChangeSpec := { name := "routeCovers", fn := fun _ => fun
  | [d1, d2, d3] => { results := [.lit (.bool false)], args := [d1, d2, d3] }
  | _ => none }
def RouteCoversWrongFalsely : Prop := routeCoversRow.holds Try.pinned (OpenSpec.ofChange routeCoversWrong)

/-- 'scriptoriumlaw25.RouteParts': WHATEVER THE INPUT: true; the input reads as it did. -/
def routePartsSpec : ChangeSpec := { name := "routeParts", fn := fun _ => fun
  | [d1, d2] => { results := [.lit (.bool true)], args := [d1, d2] }
  | _ => none }
def routePartsRow : OpenClaim := { program := "ytpkiiimbichooaa", sum := "357165b2b8950320d6300e40965f430d78c1c4f6fc6e875efde55b2b6e9f2c94", func := "scriptorium/scriptoriumlaw25.RouteParts", spec := "routeParts", inPlace := ["internal/abi.NoEscape", "internal/bytealg.MakeNoZero"], apart := false }
def RoutePartsSaid : Prop := routePartsRow.holds Try.pinned (OpenSpec.ofChange routePartsSpec)

/-- ITS FALSE NEIGHBOUR: 'it returns false'. Refute it at one input. -/
def routePartsWrong : ChangeSpec := { name := "routeParts", fn := fun _ => fun
  | [d1, d2] => { results := [.lit (.bool false)], args := [d1, d2] }
  | _ => none }
def RoutePartsWrongFalsely : Prop := routePartsRow.holds Try.pinned (OpenSpec.ofChange routePartsWrong)

/-- 'scriptoriumlaw25.RouteAnswers': WHATEVER THE INPUT: true; the input reads as it did. -/
def routeAnswersSpec : ChangeSpec := { name := "routeAnswers", fn := fun _ => fun
  | [d1, d2, d3] => { results := [.lit (.bool true)], args := [d1, d2, d3] }
  | _ => none }
def routeAnswersRow : OpenClaim := { program := "ytpkiiimbichooaa", sum := "357165b2b8950320d6300e40965f430d78c1c4f6fc6e875efde55b2b6e9f2c94", func := "scriptorium/scriptoriumlaw25.RouteAnswers", spec := "routeAnswers", inPlace := ["internal/abi.NoEscape", "internal/bytealg.MakeNoZero"], apart := false }
def RouteAnswersSaid : Prop := routeAnswersRow.holds Try.pinned (OpenSpec.ofChange routeAnswersSpec)

/-- ITS FALSE NEIGHBOUR: 'it returns false'. Refute it at one input. -/
def routeAnswersWrong : ChangeSpec := { name := "routeAnswers", fn := fun _ => fun
  | [d1, d2, d3] => { results := [.lit (.bool false)], args := [d1, d2, d3] }
  | _ => none }
def RouteAnswersWrongFalsely : Prop := routeAnswersRow.holds Try.pinned (OpenSpec.ofChange routeAnswersWrong)

/-- 'scriptoriumlaw25.RouteJoins': WHATEVER THE INPUT: true; the input reads as it did. -/
def routeJoinsSpec : ChangeSpec := { name := "routeJoins", fn := fun _ => fun
  | [d] => { results := [.lit (.bool true)], args := [d] }
  | _ => none }
def routeJoinsRow : OpenClaim := { program := "ytpkiiimbichooaa", sum := "357165b2b8950320d6300e40965f430d78c1c4f6fc6e875efde55b2b6e9f2c94", func := "scriptorium/scriptoriumlaw25.RouteJoins", spec := "routeJoins", inPlace := ["internal/abi.NoEscape", "internal/bytealg.MakeNoZero"], apart := false }
def RouteJoinsSaid : Prop := routeJoinsRow.holds Try.pinned (OpenSpec.ofChange routeJoinsSpec)

/-- ITS FALSE NEIGHBOUR: 'it returns false'. Refute it at one input. -/
def routeJoinsWrong : ChangeSpec := { name := "routeJoins", fn := fun _ => fun
  | [d] => { results := [.lit (.bool false)], args := [d] }
  | _ => none }
def RouteJoinsWrongFalsely : Prop := routeJoinsRow.holds Try.pinned (OpenSpec.ofChange routeJoinsWrong)

/-- 'scriptoriumlaw25.RouteOne': WHATEVER THE INPUT: true; the input reads as it did. -/
def routeOneSpec : ChangeSpec := { name := "routeOne", fn := fun _ => fun
  | [d1, d2] => { results := [.lit (.bool true)], args := [d1, d2] }
  | _ => none }
def routeOneRow : OpenClaim := { program := "ytpkiiimbichooaa", sum := "357165b2b8950320d6300e40965f430d78c1c4f6fc6e875efde55b2b6e9f2c94", func := "scriptorium/scriptoriumlaw25.RouteOne", spec := "routeOne", inPlace := ["internal/abi.NoEscape", "internal/bytealg.MakeNoZero"], apart := false }
def RouteOneSaid : Prop := routeOneRow.holds Try.pinned (OpenSpec.ofChange routeOneSpec)

/-- ITS FALSE NEIGHBOUR: 'it returns false'. Refute it at one input. -/
def routeOneWrong : ChangeSpec := { name := "routeOne", fn := fun _ => fun
  | [d1, d2] => { results := [.lit (.bool false)], args := [d1, d2] }
  | _ => none }
def RouteOneWrongFalsely : Prop := routeOneRow.holds Try.pinned (OpenSpec.ofChange routeOneWrong)

/-- 'scriptoriumlaw25.RouteKnown': WHATEVER THE INPUT: true; the input reads as it did. -/
def routeKnownSpec : ChangeSpec := { name := "routeKnown", fn := fun _ => fun
  | [] => { results := [.lit (.bool true)], args := [] }
  | _ => none }
def routeKnownRow : OpenClaim := { program := "ytpkiiimbichooaa", sum := "357165b2b8950320d6300e40965f430d78c1c4f6fc6e875efde55b2b6e9f2c94", func := "scriptorium/scriptoriumlaw25.RouteKnown", spec := "routeKnown", inPlace := ["internal/abi.NoEscape", "internal/bytealg.MakeNoZero"], apart := false }
def RouteKnownSaid : Prop := routeKnownRow.holds Try.pinned (OpenSpec.ofChange routeKnownSpec)

/-- ITS FALSE NEIGHBOUR: 'it returns false'. Refute it at one input. -/
def routeKnownWrong : ChangeSpec := { name := "routeKnown", fn := fun _ => fun
  | [] => { results := [.lit (.bool false)], args := [] }
  | _ => none }
def RouteKnownWrongFalsely : Prop := routeKnownRow.holds Try.pinned (OpenSpec.ofChange routeKnownWrong)

/- THE SECOND FORM. 'bulk': how many values and letters a reading holds, each counted each time it is reached (what is shared counts as often as it is met; a slice's spare places count too). A statement '..UptoSaid' is the law's where the arguments, and the package variables that the reading takes, are together of bulk at most 1048576: NARROWER than '..Said'. Prove '..Said' where nothing that the law and all that it calls make is longer than what came in: it says more and counts as full. Else prove '..UptoSaid'. A law counts once. -/
mutual
def uptoBulk {H : Type} : DataW H → Nat
  | .lit (.string bytes) => bytes.length + 1
  | .lit _ => 1
  | .nil => 1
  | .ptr d => uptoBulk d + 1
  | .slice elems spare => uptoBulkAll elems + uptoBulkAll spare + 1
  | .agg parts => uptoBulkAll parts + 1
  | .iface _ d => uptoBulk d + 1
  | .map entries => uptoBulkEntries entries + 1
  | .held _ => 1
def uptoBulkAll {H : Type} : List (DataW H) → Nat
  | [] => 0
  | d :: r => uptoBulk d + uptoBulkAll r
def uptoBulkEntries {H : Type} : List (Lit × DataW H) → Nat
  | [] => 0
  | x :: r => uptoBulkEntry x + uptoBulkEntries r
def uptoBulkEntry {H : Type} : Lit × DataW H → Nat
  | (.string bytes, d) => bytes.length + uptoBulk d + 1
  | (_, d) => uptoBulk d + 1
 end
def uptoSmall : (H : Type) → List (DataW H) → Bool := fun _ ds => decide (uptoBulkAll ds ≤ 1048576)
def OpenSpec.upto (s : _root_.Go.ChangeSpec) : _root_.Go.OpenSpec := { _root_.Go.OpenSpec.ofChange s with cond := some uptoSmall }

/-- 'scriptoriumlaw25.RouteKeys', WHERE WHAT IT READS IS OF BULK AT MOST 1048576: true; the input reads as it did. -/
def routeKeysUptoRow : OpenClaim := { program := "ytpkiiimbichooaa", sum := "357165b2b8950320d6300e40965f430d78c1c4f6fc6e875efde55b2b6e9f2c94", func := "scriptorium/scriptoriumlaw25.RouteKeys", spec := "routeKeys", inPlace := ["internal/abi.NoEscape", "internal/bytealg.MakeNoZero"], apart := false, narrowed := true }
def RouteKeysUptoSaid : Prop := routeKeysUptoRow.holds Try.pinned (OpenSpec.upto routeKeysSpec)

/-- 'scriptoriumlaw25.RouteCovers', WHERE WHAT IT READS IS OF BULK AT MOST 1048576: true; the input reads as it did. -/
def routeCoversUptoRow : OpenClaim := { program := "ytpkiiimbichooaa", sum := "357165b2b8950320d6300e40965f430d78c1c4f6fc6e875efde55b2b6e9f2c94", func := "scriptorium/scriptoriumlaw25.RouteCovers", spec := "routeCovers", inPlace := ["internal/abi.NoEscape", "internal/bytealg.MakeNoZero"], apart := false, narrowed := true }
def RouteCoversUptoSaid : Prop := routeCoversUptoRow.holds Try.pinned (OpenSpec.upto routeCoversSpec)

/-- 'scriptoriumlaw25.RouteParts', WHERE WHAT IT READS IS OF BULK AT MOST 1048576: true; the input reads as it did. -/
def routePartsUptoRow : OpenClaim := { program := "ytpkiiimbichooaa", sum := "357165b2b8950320d6300e40965f430d78c1c4f6fc6e875efde55b2b6e9f2c94", func := "scriptorium/scriptoriumlaw25.RouteParts", spec := "routeParts", inPlace := ["internal/abi.NoEscape", "internal/bytealg.MakeNoZero"], apart := false, narrowed := true }
def RoutePartsUptoSaid : Prop := routePartsUptoRow.holds Try.pinned (OpenSpec.upto routePartsSpec)

/-- 'scriptoriumlaw25.RouteAnswers', WHERE WHAT IT READS IS OF BULK AT MOST 1048576: true; the input reads as it did. -/
def routeAnswersUptoRow : OpenClaim := { program := "ytpkiiimbichooaa", sum := "357165b2b8950320d6300e40965f430d78c1c4f6fc6e875efde55b2b6e9f2c94", func := "scriptorium/scriptoriumlaw25.RouteAnswers", spec := "routeAnswers", inPlace := ["internal/abi.NoEscape", "internal/bytealg.MakeNoZero"], apart := false, narrowed := true }
def RouteAnswersUptoSaid : Prop := routeAnswersUptoRow.holds Try.pinned (OpenSpec.upto routeAnswersSpec)

/-- 'scriptoriumlaw25.RouteJoins', WHERE WHAT IT READS IS OF BULK AT MOST 1048576: true; the input reads as it did. -/
def routeJoinsUptoRow : OpenClaim := { program := "ytpkiiimbichooaa", sum := "357165b2b8950320d6300e40965f430d78c1c4f6fc6e875efde55b2b6e9f2c94", func := "scriptorium/scriptoriumlaw25.RouteJoins", spec := "routeJoins", inPlace := ["internal/abi.NoEscape", "internal/bytealg.MakeNoZero"], apart := false, narrowed := true }
def RouteJoinsUptoSaid : Prop := routeJoinsUptoRow.holds Try.pinned (OpenSpec.upto routeJoinsSpec)

/-- 'scriptoriumlaw25.RouteOne', WHERE WHAT IT READS IS OF BULK AT MOST 1048576: true; the input reads as it did. -/
def routeOneUptoRow : OpenClaim := { program := "ytpkiiimbichooaa", sum := "357165b2b8950320d6300e40965f430d78c1c4f6fc6e875efde55b2b6e9f2c94", func := "scriptorium/scriptoriumlaw25.RouteOne", spec := "routeOne", inPlace := ["internal/abi.NoEscape", "internal/bytealg.MakeNoZero"], apart := false, narrowed := true }
def RouteOneUptoSaid : Prop := routeOneUptoRow.holds Try.pinned (OpenSpec.upto routeOneSpec)

/-- 'scriptoriumlaw25.RouteKnown', WHERE WHAT IT READS IS OF BULK AT MOST 1048576: true; the input reads as it did. -/
def routeKnownUptoRow : OpenClaim := { program := "ytpkiiimbichooaa", sum := "357165b2b8950320d6300e40965f430d78c1c4f6fc6e875efde55b2b6e9f2c94", func := "scriptorium/scriptoriumlaw25.RouteKnown", spec := "routeKnown", inPlace := ["internal/abi.NoEscape", "internal/bytealg.MakeNoZero"], apart := false, narrowed := true }
def RouteKnownUptoSaid : Prop := routeKnownUptoRow.holds Try.pinned (OpenSpec.upto routeKnownSpec)

end Rows
end Go.Proofs.Ytpkiiimbichooaa
