/-
  The argument '[]Deed': its keys are no longer than the claim's reach.
-/
import Derived.Test.YtphfedkfbehigaaDeeds2
import Derived.SizedLaws
namespace Go.Proofs.Ytphfedkfbehigaa
open Go.ChangeShapes Go.WideShapes Go.ChangeAt Go.RowKit
namespace St

theorem weights_all_mem {H : Type} {P : Program} {e : TypeId} {n : Nat} : ∀ {l : List (DataW H)} {d : DataW H}, d ∈ l → n ∈ d.weights P e → n ∈ DataW.weightsAll P e l
  | y :: r, d, hd, hn => by
    simp only [DataW.weightsAll, List.mem_append]
    rcases List.mem_cons.1 hd with rfl | hd
    · exact .inl hn
    · exact .inr (weights_all_mem hd hn)

section
variable {H : Type} {enc : TypeId × Value → H} {w : World}

theorem deeds_small {v : Value} {d : DataW H} {p : List MemPlace} {A : Option Addr} {len cap : Nat} {ds : List Deed} (hv : v = .slice A len cap) (h : DataW.Trod enc Try.prog w 0 (fun _ => true) true 22 v d p)
    (hl : ds.length = len) (hds : Deeds w A ds) (hsz : ∀ n ∈ d.weights Try.prog 22, n ≤ reachBytes) : ∀ x ∈ ds, x.key.size ≤ reachBytes := by
  subst hv
  obtain ⟨fuel, hf⟩ := h
  rcases Go.Deep.open_slice Try.underlying22 hf with ⟨hcs, _⟩ | ⟨a, len', cap', m, n, D, Pl, hcs, _, hll, hm, hmm, hx, hi⟩
  · simp [Value.cells] at hcs
    obtain ⟨rfl, rfl, rfl⟩ := hcs
    intro x hx
    rw [List.length_eq_zero_iff.1 hl] at hx
    cases hx
  · simp [Value.cells] at hcs
    obtain ⟨rfl, rfl, rfl⟩ := hcs
    rw [deed_cells] at hi
    injection hx with hd _
    intro x hxm
    obtain ⟨i, hil, hxi⟩ := List.getElem_of_mem hxm
    have hget : ds[i]? = some x := by rw [List.getElem?_eq_getElem hil, hxi]
    obtain ⟨g, o, ha, _, _, c1, _, _⟩ := hds i x hget
    injection ha with ha
    subst ha
    obtain ⟨cs', hc, ht⟩ := hi i (by rw [hmm]; simp; omega)
    obtain ⟨_, hcl, hat⟩ := World.cells?_some hc
    obtain ⟨xs, m2, _, hDx, hlen, hxl, hfl⟩ := DataW.trod_struct Try.underlying29 ht
    rw [deed_cells] at hlen
    injection hDx with hDi _
    match cs', hlen with
    | [d0, d1, d2, d3], _ =>
      have k9 : Try.prog.cellsOf 9 = 1 := by kernel_rfl
      have f1 : DataW.trod enc Try.prog w 0 (fun _ => true) true m2 9 (([d0, d1, d2, d3].drop 1).take (Try.prog.cellsOf 9)) = xs[1]? := hfl 1 _ rfl
      rw [k9] at f1
      match xs, hxl with
      | [y0, y1, y2, y3], _ =>
        obtain ⟨s, hs, hy, _⟩ := DataW.trod_string Try.underlying9 f1
        simp at hs hy
        have h1 : w.cell? (((⟨g, o, none⟩ : Addr).add (i * 4)).add 1) = some d1 := hat 1 (by simp)
        rw [Sk.addr_add, Sk.addr_add] at h1
        have e1 : (Value.string s) = .string x.key := by rw [← hs]; exact Option.some.inj (h1.symm.trans c1)
        injection e1 with e1
        subst e1
        have hn : x.key.data.toList.length ∈ (D i).weights Try.prog 29 := by
          rw [hDi]
          simp only [DataW.weights, Try.underlying29]
          refine DataW.weights_mem_each (j := 1) (t := 9) rfl (d := .lit (.string x.key.data.toList)) ?_ _ ?_
          · simp [hy]
          · simp [DataW.weights]
        have := hsz x.key.data.toList.length (by
          rw [hd]
          simp only [DataW.weights, Try.underlying22]
          refine List.mem_cons_of_mem _ (List.mem_append_left _ ?_)
          exact weights_all_mem (List.mem_map.2 ⟨i, List.mem_range.2 (by omega), rfl⟩) hn)
        simpa using this
end

end St
end Go.Proofs.Ytphfedkfbehigaa
