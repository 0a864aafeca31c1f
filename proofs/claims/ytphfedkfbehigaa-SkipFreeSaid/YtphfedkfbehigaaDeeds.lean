/-
  The argument '[]Deed': what the walk is told of it, and that what came in can be told so.
-/
import Derived.Test.YtphfedkfbehigaaDone
import Derived.Deep.Slices
import Derived.Deep.Fields
import Derived.ProofKit
namespace Go.Proofs.Ytphfedkfbehigaa
open Go.ChangeShapes Go.WideShapes Go.ChangeAt Go.RowKit
namespace St

/-- the deed's fields lie in memory from an address on -/
def DeedAt (w : World) (g o : Nat) (d : Deed) : Prop :=
  w.cell? ⟨g, o, none⟩ = some (.int .i64 d.kind) ∧ w.cell? ⟨g, o + 1, none⟩ = some (.string d.key) ∧ w.cell? ⟨g, o + 2, none⟩ = some (.int .i64 d.value) ∧ w.cell? ⟨g, o + 3, none⟩ = some (.int .i64 d.steps)

/-- a slice of deeds lies in memory -/
def Deeds (w : World) (A : Option Addr) (ds : List Deed) : Prop :=
  ∀ k d, ds[k]? = some d → ∃ g o, A = some ⟨g, o, none⟩ ∧ g < w.heap.size ∧ DeedAt w g (o + k * 4) d

theorem Deeds.below {w w' : World} {A : Option Addr} {ds : List Deed} {B : Nat} (h : Deeds w A ds) (hB : w.heap.size ≤ B) (hb : Below B w w') : Deeds w' A ds := by
  intro k d hd
  obtain ⟨g, o, rfl, hg, h1, h2, h3, h4⟩ := h k d hd
  have hk := fun x => hb.cell (p := ⟨g, x, none⟩) (by show g < B; omega)
  exact ⟨g, o, rfl, Nat.lt_of_lt_of_le hg hb.size, (hk _).trans h1, (hk _).trans h2, (hk _).trans h3, (hk _).trans h4⟩

instance : Inhabited Deed := ⟨⟨0, ⟨#[]⟩, 0, 0⟩⟩


section
variable {H : Type} {enc : TypeId × Value → H} {w : World} {spare : Nat → Bool} {held : Bool}

theorem deed_cells : Try.prog.cellsOf 29 = 4 := by kernel_rfl

theorem deed_open {n : Nat} {cs : List Value} {x : DataW H × List MemPlace} (h : DataW.trod enc Try.prog w 0 spare held n 29 cs = some x) :
    ∃ d : Deed, cs = [.int .i64 d.kind, .string d.key, .int .i64 d.value, .int .i64 d.steps] := by
  obtain ⟨xs, m, _, _, hlen, hxl, hf⟩ := DataW.trod_struct Try.underlying29 h
  rw [deed_cells] at hlen
  match cs, hlen with
  | [c0, c1, c2, c3], _ =>
    have k3 : Try.prog.cellsOf 3 = 1 := by kernel_rfl
    have k9 : Try.prog.cellsOf 9 = 1 := by kernel_rfl
    have f0 : DataW.trod enc Try.prog w 0 spare held m 3 (([c0, c1, c2, c3].drop 0).take (Try.prog.cellsOf 3)) = xs[0]? := hf 0 _ rfl
    have f1 : DataW.trod enc Try.prog w 0 spare held m 9 (([c0, c1, c2, c3].drop 1).take (Try.prog.cellsOf 9)) = xs[1]? := hf 1 _ rfl
    have f2 : DataW.trod enc Try.prog w 0 spare held m 3 (([c0, c1, c2, c3].drop 2).take (Try.prog.cellsOf 3)) = xs[2]? := hf 2 _ rfl
    have f3 : DataW.trod enc Try.prog w 0 spare held m 3 (([c0, c1, c2, c3].drop 3).take (Try.prog.cellsOf 3)) = xs[3]? := hf 3 _ rfl
    rw [k3] at f0 f2 f3
    rw [k9] at f1
    match xs, hxl with
    | [y0, y1, y2, y3], _ =>
      obtain ⟨a, ha, _, _⟩ := DataW.trod_int Try.underlying3 f0
      obtain ⟨s, hs, _, _⟩ := DataW.trod_string Try.underlying9 f1
      obtain ⟨b, hb, _, _⟩ := DataW.trod_int Try.underlying3 f2
      obtain ⟨c, hc, _, _⟩ := DataW.trod_int Try.underlying3 f3
      simp at ha hs hb hc
      exact ⟨⟨a, s, b, c⟩, by rw [ha, hs, hb, hc]⟩

theorem deeds_open {v : Value} {d : DataW H} {p : List MemPlace} {A : Option Addr} {len cap : Nat} (hv : v = .slice A len cap) (h : DataW.Trod enc Try.prog w 0 (fun _ => true) true 22 v d p) :
    ∃ ds, ds.length = len ∧ Deeds w A ds ∧ len ≤ cap ∧ cap ≤ maxLen ∧ (A = none → len = 0 ∧ cap = 0) := by
  subst hv
  obtain ⟨fuel, hf⟩ := h
  rcases Go.Deep.open_slice Try.underlying22 hf with ⟨hcs, _⟩ | ⟨a, len', cap', m, n, D, Pl, hcs, _, hl, hm, hmm, _, hi⟩
  · simp [Value.cells] at hcs
    obtain ⟨rfl, rfl, rfl⟩ := hcs
    exact ⟨[], rfl, (fun k d hd => by simp at hd), Nat.le_refl _, by simp, fun _ => ⟨rfl, rfl⟩⟩
  · simp [Value.cells] at hcs
    obtain ⟨rfl, rfl, rfl⟩ := hcs
    rw [deed_cells] at hi
    have hspot : 0 < len → a.spot = none := fun h0 => by
      obtain ⟨cs', hc, ht⟩ := hi 0 (by rw [hmm]; simp; omega)
      obtain ⟨_, hcl, hat⟩ := World.cells?_some hc
      obtain ⟨e, rfl⟩ := deed_open ht
      have h0 := hat 0 (by omega)
      have hsp := World.cell?_spot h0
      simpa [Addr.add] using hsp
    have hall : ∀ i, i < len → ∃ e : Deed, a.block < w.heap.size ∧ a.spot = none ∧ DeedAt w a.block (a.off + i * 4) e := by
      intro i hil
      obtain ⟨cs', hc, ht⟩ := hi i (by rw [hmm]; simp; omega)
      obtain ⟨_, hcl, hat⟩ := World.cells?_some hc
      obtain ⟨e, rfl⟩ := deed_open ht
      have hs := hspot (by omega)
      obtain ⟨ab, ao, asp⟩ := a
      have hs' : asp = none := hs
      subst hs'
      have e2 : ∀ j, ((⟨ab, ao, none⟩ : Addr).add (i * 4)).add j = ⟨ab, ao + i * 4 + j, none⟩ := fun j => by rw [Sk.addr_add, Sk.addr_add]
      have hk := fun j hj => hat j hj
      simp only [e2] at hk
      refine ⟨e, ?_, rfl, hk 0 (by omega), hk 1 (by omega), hk 2 (by omega), hk 3 (by omega)⟩
      exact World.block_lt_of_cell? w ⟨ab, ao + i * 4 + 0, none⟩ (hk 0 (by omega))
    obtain ⟨f, hf⟩ := Go.Deep.choose_lt hall
    refine ⟨(List.range len).map f, by simp, ?_, hl, hm, fun h => by cases h⟩
    intro k d hd
    have hk : k < len := by
      have := (List.getElem?_eq_some_iff.1 hd).1
      simpa using this
    simp [hk] at hd
    subst hd
    obtain ⟨h1, h2, h3⟩ := hf k hk
    obtain ⟨ab, ao, asp⟩ := a
    have : asp = none := h2
    subst this
    exact ⟨ab, ao, rfl, h1, h3⟩
end

end St
end Go.Proofs.Ytphfedkfbehigaa
