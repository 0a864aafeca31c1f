/-
  Facts for the law RouteParts: parts in memory.
-/
import Derived.Test.YtpkiiimbichooaaRtRefParts
import Derived.Test.YtpkiiimbichooaaRtAnswersWalk
import Derived.Test.YtpkiiimbichooaaRtCoverFacts
namespace Go.Proofs.Ytpkiiimbichooaa
open Go.RowKit Sk
namespace Rr
open Rt (Strs RP Sp edges ed newE isK okB em chk newE_zero str_info edges_length Pt rcP partsTo rcP_len)

structure Par (w : World) (A : Option Addr) (ps : List Pt) (k : Nat) : Prop where
  cel : ∀ (j : Nat) (p : Pt), k ≤ j → ps[j]? = some p → ∃ g, A = some ⟨g, 0, none⟩ ∧
    (w.cell? ⟨g, j * 4, none⟩ = some (.int .i64 p.i) ∧ w.cell? ⟨g, j * 4 + 1, none⟩ = some (.int .i64 p.n) ∧ w.cell? ⟨g, j * 4 + 2, none⟩ = some (.string p.a) ∧ w.cell? ⟨g, j * 4 + 3, none⟩ = some (.string p.b)) ∧
    (w.frozen? ⟨g, j * 4, none⟩ = false ∧ w.frozen? ⟨g, j * 4 + 1, none⟩ = false ∧ w.frozen? ⟨g, j * 4 + 2, none⟩ = false ∧ w.frozen? ⟨g, j * 4 + 3, none⟩ = false)

theorem par_of {w : World} {B : Nat} {e : TypeId} {v : Value} {ps : List Pt} (h : w.ownsRow B e 4 v ps.length (flat rcP ps)) :
    ∃ A c, v = .slice A ps.length c ∧ Par w A ps 0 ∧ ∀ b, blockOf A b → B ≤ b ∧ b < w.heap.size := by
  rcases h.2 with ⟨hv, h0⟩ | ⟨g, cap, cur, hv, hB, hg, hnc, _⟩
  · exact ⟨none, 0, by rw [hv, h0], ⟨fun j p _ hp => by have := (List.getElem?_eq_some_iff.1 hp).1; omega⟩, fun b ⟨a, ha, _⟩ => by cases ha⟩
  · refine ⟨some ⟨g, 0, none⟩, cap, hv, ⟨fun k p _ hp => ?_⟩, fun b ⟨a, ha, hb⟩ => ?_⟩
    · subst hv
      have hc := h.cells (g := g) rfl
      have key : ∀ j u, j < 4 → (rcP p)[j]? = some u → w.cell? ⟨g, k * 4 + j, none⟩ = some u := fun j u hj hu => by
        have := hc (k * 4 + j) u (by rw [flat_get rcP_len hp hj]; exact hu)
        rw [addr_add, Nat.zero_add] at this
        exact this
      have hf : ∀ j, w.frozen? ⟨g, j, none⟩ = false := fun j => frozen_of_row w g j cur _ hg
      exact ⟨g, rfl, ⟨key 0 _ (by omega) rfl, key 1 _ (by omega) rfl, key 2 _ (by omega) rfl, key 3 _ (by omega) rfl⟩, hf _, hf _, hf _, hf _⟩
    · injection ha with ha
      subst ha
      subst hb
      exact ⟨hB, (Array.getElem?_eq_some_iff.1 hg).1⟩
theorem Par.keep {w w' : World} {A : Option Addr} {ps : List Pt} {k : Nat} (h : Par w A ps k) {S : Nat → Prop} (ht : Turns S w w') (hS : ∀ b, blockOf A b → ¬ S b) : Par w' A ps k := ⟨fun j p hj hp => by
  obtain ⟨g, hA, ⟨c0, c1, c2, c3⟩, f0, f1, f2, f3⟩ := h.cel j p hj hp
  have hgl := World.block_lt_of_cell? w _ c0
  have hb := ht.block g hgl (hS g ⟨_, hA, rfl⟩)
  have hc : ∀ o, w'.cell? ⟨g, o, none⟩ = w.cell? ⟨g, o, none⟩ := fun o => World.cell?_of_block (w := w) (a := ⟨g, o, none⟩) hb
  have hf : ∀ o, w'.frozen? ⟨g, o, none⟩ = w.frozen? ⟨g, o, none⟩ := fun o => World.frozen?_of_block (w := w) (a := ⟨g, o, none⟩) hb
  exact ⟨g, hA, ⟨(hc _).trans c0, (hc _).trans c1, (hc _).trans c2, (hc _).trans c3⟩, (hf _).trans f0, (hf _).trans f1, (hf _).trans f2, (hf _).trans f3⟩⟩
theorem Par.below {w w' : World} {A : Option Addr} {ps : List Pt} {k : Nat} (h : Par w A ps k) (hb : Below w.heap.size w w') : Par w' A ps k := h.keep (S := fun _ => False) (Turns.of_below hb) (fun _ _ h => h)

def P1Rel (A : Option Addr) (ps : List Pt) (w : World) (cnt : Nat) (s : Value) (w1 : World) : Prop :=
  ∃ k, k + cnt = ps.length ∧ s = .int .i64 (k : Nat) ∧ Par w1 A ps k ∧ Turns (blockOf A) w w1
def P2Rel (n : Nat) (w : World) (cnt : Nat) (s : Value) (w1 : World) : Prop :=
  ∃ k, k + cnt = n ∧ s = .int .i64 (k : Nat) ∧ Below w.heap.size w w1
theorem cell_set4 {w : World} {g k o : Nat} {u : Value} (h : o ≠ k) : (w.setCell ⟨g, k, none⟩ u).cell? ⟨g, o, none⟩ = w.cell? ⟨g, o, none⟩ :=
  World.cell?_setCell_other (w := w) (a := ⟨g, k, none⟩) (b := ⟨g, o, none⟩) (v := u) (by intro e; injection e with _ e; omega)
theorem P1Rel.next {g : Nat} {ps : List Pt} {w wr : World} {k : Nat} (hk : k < ps.length) (h : Par wr (some ⟨g, 0, none⟩) ps k) (ht : Turns (blockOf (some ⟨g, 0, none⟩)) w wr) (u0 u1 u2 u3 : Value) (q : Nat) :
    P1Rel (some ⟨g, 0, none⟩) ps w (ps.length - (k + 1)) (.int .i64 ((k : Int) + 1)) (((((wr.drewN q).setCell ⟨g, k * 4, none⟩ u0).setCell ⟨g, k * 4 + 1, none⟩ u1).setCell ⟨g, k * 4 + 2, none⟩ u2).setCell ⟨g, k * 4 + 3, none⟩ u3) := by
  refine ⟨k + 1, by omega, by simp, ⟨fun j p hj hp => ?_⟩, ?_⟩
  · obtain ⟨g', hA, ⟨c0, c1, c2, c3⟩, f0, f1, f2, f3⟩ := h.cel j p (by omega) hp
    obtain rfl : g = g' := by simpa using hA
    have key : ∀ o, k * 4 + 4 ≤ o → (((((wr.drewN q).setCell ⟨g, k * 4, none⟩ u0).setCell ⟨g, k * 4 + 1, none⟩ u1).setCell ⟨g, k * 4 + 2, none⟩ u2).setCell ⟨g, k * 4 + 3, none⟩ u3).cell? ⟨g, o, none⟩ = wr.cell? ⟨g, o, none⟩ := fun o ho => by
      rw [cell_set4 (by omega), cell_set4 (by omega), cell_set4 (by omega), cell_set4 (by omega)]
      rfl
    have keyf : ∀ o, (((((wr.drewN q).setCell ⟨g, k * 4, none⟩ u0).setCell ⟨g, k * 4 + 1, none⟩ u1).setCell ⟨g, k * 4 + 2, none⟩ u2).setCell ⟨g, k * 4 + 3, none⟩ u3).frozen? ⟨g, o, none⟩ = wr.frozen? ⟨g, o, none⟩ := fun o => by
      rw [World.frozen?_setCell, World.frozen?_setCell, World.frozen?_setCell, World.frozen?_setCell]
      rfl
    refine ⟨g, rfl, ⟨?_, ?_, ?_, ?_⟩, ?_, ?_, ?_, ?_⟩
    · rw [key _ (by omega)]; exact c0
    · rw [key _ (by omega)]; exact c1
    · rw [key _ (by omega)]; exact c2
    · rw [key _ (by omega)]; exact c3
    · rw [keyf]; exact f0
    · rw [keyf]; exact f1
    · rw [keyf]; exact f2
    · rw [keyf]; exact f3
  · have h0 : Turns (blockOf (some ⟨g, 0, none⟩)) w (wr.drewN q) := ⟨ht.os, ht.tape, ht.output, ht.size, ht.block⟩
    have h1 := h0.setCell (p := ⟨g, k * 4, none⟩) (fun _ => ⟨_, rfl, rfl⟩) u0
    have h2 := h1.setCell (p := ⟨g, k * 4 + 1, none⟩) (fun _ => ⟨_, rfl, rfl⟩) u1
    have h3 := h2.setCell (p := ⟨g, k * 4 + 2, none⟩) (fun _ => ⟨_, rfl, rfl⟩) u2
    exact h3.setCell (p := ⟨g, k * 4 + 3, none⟩) (fun _ => ⟨_, rfl, rfl⟩) u3
theorem edge_chk {l : List ByteArray} (h : okB l = true) (i : Nat) (hi : i < l.length + 1) : chk (ed (edges l) i) (ed (edges l) (i + 1)) = 0 := by
  have h1 := Rt.ed_size h i
  have h2 := Rt.ed_size h (i + 1)
  have hl := edges_length l
  have h3 : kl (ed (edges l) i) (ed (edges l) (i + 1)) = true := Rt.asc_lt (Rt.asc_edges h) (Rt.ed_get (by omega)) (Rt.ed_get (by omega)) (Nat.lt_succ_self i)
  unfold chk
  rw [if_neg (by omega), if_pos h3]

end Rr
end Go.Proofs.Ytpkiiimbichooaa
