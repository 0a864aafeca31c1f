/-
  The arguments '[]api.Op', '[][]api.Op': what the walk is told of them.
-/
import Derived.Test.YtoglklldclgcbaaTbAt
import Derived.Deep.Slices
import Derived.Deep.Fields
import Derived.ProofKit
import Derived.SizedLaws
namespace Go.Proofs.Ytoglklldclgcbaa
open Go.ChangeShapes Go.WideShapes Go.ChangeAt Go.RowKit
namespace Tb

instance : Inhabited Chg := ⟨⟨⟨#[]⟩, ⟨#[]⟩, false⟩⟩
structure Chg.Fine (o : Chg) : Prop where
  key : o.k.size ≤ maxLen
  val : o.v.size ≤ maxLen

/-- batches in memory -/
structure Bts (w : World) (A : Option Addr) (len cap : Nat) (ls : List (List Chg)) : Prop where
  hlen : ls.length = len
  hcap : len ≤ cap
  cell : ∀ (i : Nat) (l : List Chg), ls[i]? = some l → ∃ g o A' n c, A = some ⟨g, o, none⟩ ∧ w.cell? ⟨g, o + i, none⟩ = some (.slice A' n c) ∧ Ops w A' n c l
theorem Bts.below {w w' : World} {A : Option Addr} {len cap : Nat} {ls : List (List Chg)} (h : Bts w A len cap ls) (hb : Below w.heap.size w w') : Bts w' A len cap ls :=
  ⟨h.hlen, h.hcap, fun i l hl => by
    obtain ⟨g, o, A', n, c, hA, hc, ho⟩ := h.cell i l hl
    exact ⟨g, o, A', n, c, hA, (hb.cell (p := ⟨g, _, none⟩) (World.block_lt_of_cell? w _ hc)).trans hc, ho.below hb⟩⟩

theorem weights_all_mem {H : Type} {P : Program} {e : TypeId} {n : Nat} : ∀ {l : List (DataW H)} {d : DataW H}, d ∈ l → n ∈ d.weights P e → n ∈ DataW.weightsAll P e l
  | y :: r, d, hd, hn => by
    simp only [DataW.weightsAll, List.mem_append]
    rcases List.mem_cons.1 hd with rfl | hd
    · exact .inl hn
    · exact .inr (weights_all_mem hd hn)

section
variable {H : Type} {enc : TypeId × Value → H} {w : World}

theorem op_cells : Try.prog.cellsOf 32 = 3 := by kernel_rfl

theorem op_open {n : Nat} {cs : List Value} {x : DataW H × List MemPlace} (h : DataW.trod enc Try.prog w 0 (fun _ => true) true n 32 cs = some x) :
    ∃ o : Chg, cs = [.string o.k, .string o.v, .bool o.d] ∧ o.Fine ∧ ((∀ m ∈ x.1.weights Try.prog 32, m ≤ reachBytes) → o.k.size ≤ reachBytes) := by
  obtain ⟨xs, m, _, hDx, hlen, hxl, hf⟩ := DataW.trod_struct Try.underlying32 h
  rw [op_cells] at hlen
  match cs, hlen with
  | [c0, c1, c2], _ =>
    have k4 : Try.prog.cellsOf 4 = 1 := by kernel_rfl
    have k9 : Try.prog.cellsOf 9 = 1 := by kernel_rfl
    have f0 : DataW.trod enc Try.prog w 0 (fun _ => true) true m 9 (([c0, c1, c2].drop 0).take (Try.prog.cellsOf 9)) = xs[0]? := hf 0 _ rfl
    have f1 : DataW.trod enc Try.prog w 0 (fun _ => true) true m 9 (([c0, c1, c2].drop 1).take (Try.prog.cellsOf 9)) = xs[1]? := hf 1 _ rfl
    have f2 : DataW.trod enc Try.prog w 0 (fun _ => true) true m 4 (([c0, c1, c2].drop 2).take (Try.prog.cellsOf 4)) = xs[2]? := hf 2 _ rfl
    rw [k9] at f0 f1
    rw [k4] at f2
    match xs, hxl with
    | [y0, y1, y2], _ =>
      obtain ⟨a, ha, hy, wa⟩ := DataW.trod_string Try.underlying9 f0
      obtain ⟨s, hs, _, ws⟩ := DataW.trod_string Try.underlying9 f1
      obtain ⟨b, hb, _⟩ := DataW.trod_bool Try.underlying4 f2
      simp at ha hs hb hy
      refine ⟨⟨a, s, b⟩, by rw [ha, hs, hb], ⟨wa, ws⟩, fun hsz => ?_⟩
      have := hsz a.data.toList.length (by
        rw [hDx]
        simp only [DataW.weights, Try.underlying32]
        refine DataW.weights_mem_each (j := 0) (t := 9) rfl (d := .lit (.string a.data.toList)) ?_ _ ?_
        · simp [hy]
        · simp [DataW.weights])
      simpa using this

theorem ops_of {t : Nat} {u : Value} {x : DataW H × List MemPlace} (h : DataW.trod enc Try.prog w 0 (fun _ => true) true t 27 [u] = some x) :
    ∃ A len cap l, u = .slice A len cap ∧ Ops w A len cap l ∧ (∀ o ∈ l, Chg.Fine o) ∧ ((∀ m ∈ x.1.weights Try.prog 27, m ≤ reachBytes) → ∀ o ∈ l, o.k.size ≤ reachBytes) ∧ ((∀ m ∈ x.1.weights Try.prog 27, m ≤ reachBytes) → l.length * 40 ≤ reachBytes) := by
  have b40 : Try.prog.bytesOf 32 = 40 := by kernel_rfl
  rcases Go.Deep.open_slice Try.underlying27 h with ⟨hcs, _⟩ | ⟨a, len, cap, m, n, D, Pl, hcs, _, hl, hm, hmm, hx, hi⟩
  · simp at hcs
    exact ⟨none, 0, 0, [], hcs, ⟨rfl, Nat.le_refl _, fun _ => rfl, fun k x hx => by simp at hx⟩, (fun d hd => by cases hd), (fun _ d hd => by cases hd), fun _ => by simp⟩
  · simp at hcs
    subst hcs
    rw [op_cells] at hi
    simp only [if_true] at hmm
    have hspot : 0 < len → a.spot = none := fun h0 => by
      obtain ⟨cs', hc, ht⟩ := hi 0 (by omega)
      obtain ⟨_, hcl, hat⟩ := World.cells?_some hc
      obtain ⟨e, rfl, hfe⟩ := op_open ht
      have h0 := hat 0 (by simp)
      have hsp := World.cell?_spot h0
      simpa [Addr.add] using hsp
    have hall : ∀ i, i < len → ∃ e : Chg, a.spot = none ∧ (w.cell? ⟨a.block, a.off + i * 3, none⟩ = some (.string e.k) ∧ w.cell? ⟨a.block, a.off + i * 3 + 1, none⟩ = some (.string e.v) ∧ w.cell? ⟨a.block, a.off + i * 3 + 2, none⟩ = some (.bool e.d)) ∧ e.Fine ∧ ((∀ m ∈ (D i).weights Try.prog 32, m ≤ reachBytes) → e.k.size ≤ reachBytes) := by
      intro i hil
      obtain ⟨cs', hc, ht⟩ := hi i (by omega)
      obtain ⟨_, hcl, hat⟩ := World.cells?_some hc
      obtain ⟨e, rfl, hfe, hw⟩ := op_open ht
      have hs := hspot (by omega)
      obtain ⟨ab, ao, asp⟩ := a
      have hs' : asp = none := hs
      subst hs'
      have e2 : ∀ j, ((⟨ab, ao, none⟩ : Addr).add (i * 3)).add j = ⟨ab, ao + i * 3 + j, none⟩ := fun j => by rw [Sk.addr_add, Sk.addr_add]
      have hk := fun j hj => hat j hj
      simp only [e2] at hk
      exact ⟨e, rfl, ⟨hk 0 (by simp), hk 1 (by simp), hk 2 (by simp)⟩, hfe, hw⟩
    obtain ⟨f, hf⟩ := Go.Deep.choose_lt hall
    refine ⟨some a, len, cap, (List.range len).map f, rfl, ⟨by simp, hl, (fun h => by cases h), ?_⟩, ?_, ?_, ?_⟩
    · intro k d hd
      have hk : k < len := by
        have := (List.getElem?_eq_some_iff.1 hd).1
        simpa using this
      simp [hk] at hd
      subst hd
      obtain ⟨h2, h3, _⟩ := hf k hk
      obtain ⟨ab, ao, asp⟩ := a
      have : asp = none := h2
      subst this
      exact ⟨ab, ao, rfl, h3⟩
    · intro d hd
      obtain ⟨i, hi, rfl⟩ := List.mem_map.1 hd
      exact (hf i (List.mem_range.1 hi)).2.2.1
    · intro hsz d hd
      obtain ⟨i, hi, rfl⟩ := List.mem_map.1 hd
      refine (hf i (List.mem_range.1 hi)).2.2.2 fun n hn => hsz n ?_
      rw [hx]
      simp only [DataW.weights, Try.underlying27]
      refine List.mem_cons_of_mem _ (List.mem_append_left _ ?_)
      exact weights_all_mem (List.mem_map.2 ⟨i, hi, rfl⟩) hn
    · intro hsz
      have := hsz ((len + (m - len)) * 40) (by
        rw [hx]
        simp [DataW.weights, Try.underlying27, b40])
      refine Nat.le_trans (Nat.mul_le_mul_right _ ?_) this
      simp

theorem ops_open {v : Value} {d : DataW H} {p : List MemPlace} {A : Option Addr} {len cap : Nat} (hv : v = .slice A len cap) (h : DataW.Trod enc Try.prog w 0 (fun _ => true) true 27 v d p) :
    ∃ l, Ops w A len cap l ∧ (∀ o ∈ l, Chg.Fine o) ∧ ((∀ m ∈ d.weights Try.prog 27, m ≤ reachBytes) → ∀ o ∈ l, o.k.size ≤ reachBytes) ∧ ((∀ m ∈ d.weights Try.prog 27, m ≤ reachBytes) → l.length * 40 ≤ reachBytes) := by
  subst hv
  obtain ⟨fuel, hf⟩ := h
  have hf' : DataW.trod enc Try.prog w 0 (fun _ => true) true fuel 27 [.slice A len cap] = some (d, p) := hf
  obtain ⟨A', len', cap', l, he, h1⟩ := ops_of hf'
  injection he with e1 e2 e3
  subst e1 e2 e3
  exact ⟨l, h1⟩

theorem batches_open {v : Value} {d : DataW H} {p : List MemPlace} {A : Option Addr} {len cap : Nat} (hv : v = .slice A len cap) (h : DataW.Trod enc Try.prog w 0 (fun _ => true) true 22 v d p) :
    ∃ ls, Bts w A len cap ls ∧ (∀ l ∈ ls, ∀ o ∈ l, Chg.Fine o) ∧ ((∀ m ∈ d.weights Try.prog 22, m ≤ reachBytes) → ∀ l ∈ ls, ∀ o ∈ l, o.k.size ≤ reachBytes) ∧ ((∀ m ∈ d.weights Try.prog 22, m ≤ reachBytes) → ∀ l ∈ ls, l.length * 40 ≤ reachBytes) := by
  subst hv
  obtain ⟨fuel, hf⟩ := h
  have hf' : DataW.trod enc Try.prog w 0 (fun _ => true) true fuel 22 [.slice A len cap] = some (d, p) := hf
  have k27 : Try.prog.cellsOf 27 = 1 := by kernel_rfl
  rcases Go.Deep.open_slice1 Try.underlying22 k27 hf' with ⟨hcs, _⟩ | ⟨a, len', cap', m, n, V, D, Pl, hcs, _, hl, hm, hmm, hx, hi⟩
  · simp at hcs
    obtain ⟨rfl, rfl, rfl⟩ := hcs
    exact ⟨[], ⟨rfl, Nat.le_refl _, fun k x hx => by simp at hx⟩, (fun l hl => by cases hl), (fun _ l hl => by cases hl), (fun _ l hl => by cases hl)⟩
  · simp at hcs
    obtain ⟨rfl, rfl, rfl⟩ := hcs
    simp only [if_true] at hmm
    have hspot : 0 < len → a.spot = none := fun h0 => by
      have h1 := (hi 0 (by omega)).1
      have hsp := World.cell?_spot h1
      simpa [Addr.add] using hsp
    have hall : ∀ i, i < len → ∃ l : List Chg, a.spot = none ∧ (∃ A' n c, w.cell? ⟨a.block, a.off + i, none⟩ = some (.slice A' n c) ∧ Ops w A' n c l) ∧ (∀ o ∈ l, Chg.Fine o) ∧ ((∀ m ∈ (D i).weights Try.prog 27, m ≤ reachBytes) → ∀ o ∈ l, o.k.size ≤ reachBytes) ∧ ((∀ m ∈ (D i).weights Try.prog 27, m ≤ reachBytes) → l.length * 40 ≤ reachBytes) := by
      intro i hil
      obtain ⟨h1, h2⟩ := hi i (by omega)
      obtain ⟨A', n', c', l, hv, ho, hfi, hw⟩ := ops_of h2
      have hs := hspot (by omega)
      obtain ⟨ab, ao, asp⟩ := a
      have hs' : asp = none := hs
      subst hs'
      rw [Sk.addr_add, hv] at h1
      exact ⟨l, rfl, ⟨A', n', c', h1, ho⟩, hfi, hw⟩
    obtain ⟨f, hf⟩ := Go.Deep.choose_lt hall
    refine ⟨(List.range len).map f, ⟨by simp, hl, ?_⟩, ?_, ?_, ?_⟩
    · intro k d hd
      have hk : k < len := by
        have := (List.getElem?_eq_some_iff.1 hd).1
        simpa using this
      simp [hk] at hd
      subst hd
      obtain ⟨h2, ⟨A', n', c', h3, h4⟩, _⟩ := hf k hk
      obtain ⟨ab, ao, asp⟩ := a
      have : asp = none := h2
      subst this
      exact ⟨ab, ao, A', n', c', rfl, h3, h4⟩
    · intro d hd
      obtain ⟨i, hi, rfl⟩ := List.mem_map.1 hd
      exact (hf i (List.mem_range.1 hi)).2.2.1
    · intro hsz d hd
      obtain ⟨i, hi, rfl⟩ := List.mem_map.1 hd
      refine (hf i (List.mem_range.1 hi)).2.2.2.1 fun n hn => hsz n ?_
      injection hx with hd _
      rw [hd]
      simp only [DataW.weights, Try.underlying22]
      refine List.mem_cons_of_mem _ (List.mem_append_left _ ?_)
      exact weights_all_mem (List.mem_map.2 ⟨i, hi, rfl⟩) hn
    · intro hsz d hd
      obtain ⟨i, hi, rfl⟩ := List.mem_map.1 hd
      refine (hf i (List.mem_range.1 hi)).2.2.2.2 fun n hn => hsz n ?_
      injection hx with hd _
      rw [hd]
      simp only [DataW.weights, Try.underlying22]
      refine List.mem_cons_of_mem _ (List.mem_append_left _ ?_)
      exact weights_all_mem (List.mem_map.2 ⟨i, hi, rfl⟩) hn
end

end Tb
end Go.Proofs.Ytoglklldclgcbaa
