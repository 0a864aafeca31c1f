/-
  A region that draws its order, whose operations only read and whose callees may make memory of their own, walked once, in the order of the text: the kit's theorem on quiet regions at the class of worlds 'later than w'. No walk.
-/
import Derived.Deep.QuietTactic
import Derived.BigQuiet
import Derived.Below
namespace Go.Proofs.Ytpkiiimbichooaa
open Go.RowKit
namespace Lt

/-- a world later than w: what lay in w lies there -/
structure Later (w : World) where
  now : World
  bel : Below w.heap.size w now

instance (w : World) : Inhabited (Later w) := ⟨⟨w, Below.refl _ _⟩⟩

theorem wp_region_later {P : Program} {id : Nat} {Q : Exit → Act → World → Prop} {a : Act} {w : World} {l : List Oper} (hm : P.follows .mixedOrders = true) (hB : Region.lexB .any l.toArray = true)
    (h : wpQuiet P l.toArray (fun w' => ∃ p : Later w, w' = p.now) (fun a' => ∀ w', (∃ p : Later w, w' = p.now) → Q .normal a' w') l a) : (Code.region id l.toArray true).wp P Q a w :=
  wp_region_quiet (C := fun w' => ∃ p : Later w, w' = p.now) hm hB ⟨⟨w.drew, (Below.refl _ _).drew⟩, rfl⟩ (by simpa using h)

theorem cell_later {w : World} {a : Addr} {v : Value} (h : w.cell? a = some v) (p : Later w) : p.now.cell? a = some v :=
  (p.bel.cell (World.block_lt_of_cell? w _ h)).trans h

theorem calls_later {P : Program} {f : FuncId} {args : Array Value} {w : World} {p : Later w} {v : Value}
    (h : Calls P f args p.now fun e w' => e = .returned v ∧ Below p.now.heap.size p.now w') : Calls P f args p.now fun e w'' => e = .returned v ∧ ∃ q : Later w, w'' = q.now :=
  h.mono fun _ w'' ⟨he, hb⟩ => ⟨he, ⟨w'', p.bel.trans (hb.mono p.bel.size)⟩, rfl⟩

end Lt
end Go.Proofs.Ytpkiiimbichooaa
