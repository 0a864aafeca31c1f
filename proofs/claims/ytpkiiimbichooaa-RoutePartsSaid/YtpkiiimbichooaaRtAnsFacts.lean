/-
  What the law RouteAnswers compares, on both sides; the copy that is spoilt.
-/
import Derived.Test.YtpkiiimbichooaaRtRefSpan
namespace Go.Proofs.Ytpkiiimbichooaa
open Go.RowKit Sk
namespace Rr
open Rt (Strs RP Sp edges ed newE isK okB em askE newE_zero str_info isK_of shard_in edges_length ed_asc asc_edges inn_iff kl_of_ok)

theorem filter_head {α : Type} {p : α → Bool} {l : List α} {m : Nat} (hm : m ≤ l.length) (h1 : ∀ k x, k < m → l[k]? = some x → p x = true) (h2 : ∀ k x, m ≤ k → l[k]? = some x → p x = false) : (l.filter p).length = m := by
  have e : l.filter p = (l.take m).filter p ++ (l.drop m).filter p := by rw [← List.filter_append, List.take_append_drop]
  rw [e, List.filter_eq_self.2, List.filter_eq_nil_iff.2, List.append_nil, List.length_take]
  · omega
  · intro x hx
    obtain ⟨k, hk⟩ := List.mem_iff_getElem?.1 hx
    rw [List.getElem?_drop] at hk
    rw [h2 (m + k) x (by omega) hk]
    simp
  · intro x hx
    obtain ⟨k, hk⟩ := List.mem_iff_getElem?.1 hx
    rw [List.getElem?_take] at hk
    split at hk
    · exact h1 k x (by assumption) hk
    · cases hk

theorem cntL_shard {l : List ByteArray} (h : okB l = true) {key : ByteArray} (h1 : 1 ≤ key.size) (h2 : key.size ≤ 32) : cntL key l = Rt.shard (edges l) key := by
  obtain ⟨s1, s2, _⟩ := shard_in h h1 h2
  have ha := asc_edges h
  have hlen := edges_length l
  obtain ⟨i1, i2⟩ := inn_iff.1 s2
  generalize Rt.shard (edges l) key = m at *
  refine filter_head s1 (fun k x hk hx => ?_) (fun k x hk hx => ?_)
  · have hkl := (List.getElem?_eq_some_iff.1 hx).1
    rw [ed_split hkl] at hx
    injection hx with hx
    subst hx
    have : kl key (ed (edges l) (k + 1)) = false := by
      by_cases e : k + 1 = m
      · rw [e]; exact i1
      · cases e2 : kl key (ed (edges l) (k + 1)) with
        | false => rfl
        | true => rw [kl_trans e2 (ed_asc ha (show k + 1 < m by omega) (by omega))] at i1; cases i1
    rw [this]; rfl
  · have hkl := (List.getElem?_eq_some_iff.1 hx).1
    rw [ed_split hkl] at hx
    injection hx with hx
    subst hx
    have : kl key (ed (edges l) (k + 1)) = true := by
      by_cases e : k = m
      · rw [e]; exact i2
      · exact kl_trans i2 (ed_asc ha (show m + 1 < k + 1 by omega) (by omega))
    rw [this]; rfl

/-! ### the answers, on both sides -/
def sv (l : List ByteArray) (key : ByteArray) : Int := if isK key = true then (Rt.shard (edges l) key : Nat) else 0
def se (key : ByteArray) : Int := if isK key = true then 0 else 2
def nv (l : List ByteArray) (n i : Int) : Int := if 0 ≤ i ∧ i < (l.length : Int) + 1 then 1 + i % n else 0
def ne (l : List ByteArray) (i : Int) : Int := if 0 ≤ i ∧ i < (l.length : Int) + 1 then 0 else 9
def sF (l : List ByteArray) (i : Int) : ByteArray := if 0 ≤ i ∧ i < (l.length : Int) + 1 then ed (edges l) i.toNat else em
def sT (l : List ByteArray) (i : Int) : ByteArray := if 0 ≤ i ∧ i < (l.length : Int) + 1 then ed (edges l) (i.toNat + 1) else em

section
variable {B B' R p : Nat} {l : List ByteArray} {n : Int} {w : World}
theorem Shard_a (h : Rt.Are B w R (edges l) n) (hn : 1 ≤ n) (h6 : l.length < 6) (hok : okB l = true) (key : ByteArray) :
    Calls Try.prog 12 #[RP R, .string key] w fun e w' => e = .returned (.tuple #[.int .i64 (sv l key), .int .i64 (se key)]) ∧ ∃ q, w' = w.drewN q := by
  unfold sv se
  cases hk : isK key with
  | true =>
    obtain ⟨k1, k2⟩ : 1 ≤ key.size ∧ key.size ≤ 32 := by unfold isK at hk; simpa using hk
    exact Rt.Shard_in h hn (asc_edges hok) (by rw [edges_length]; omega) key hk (shard_in hok k1 k2).2.2.1
  | false => exact (Rt.Shard_out h hn key hk).mono fun _ _ ⟨a, b⟩ => ⟨a, 0, by rw [← b]; rfl⟩
theorem Shard_b (h : Are B w p l n) (h6 : l.length < 6) (hok : okB l = true) (key : ByteArray) :
    Calls Try.prog 22 #[RP p, .string key] w fun e w' => e = .returned (.tuple #[.int .i64 (sv l key), .int .i64 (se key)]) ∧ w = w' := by
  unfold sv se
  cases hk : isK key with
  | true =>
    obtain ⟨k1, k2⟩ : 1 ≤ key.size ∧ key.size ≤ 32 := by unfold isK at hk; simpa using hk
    rw [if_pos rfl, if_pos rfl, ← cntL_shard hok k1 k2]
    exact Shard_in h h6 key hk
  | false => exact Shard_out h key hk
theorem Node_a (h : Rt.Are B w R (edges l) n) (hn : 1 ≤ n) (hn4 : n ≤ 4) (h6 : l.length < 6) (i : Int) :
    Calls Try.prog 17 #[RP R, .int .i64 i] w fun e w' => e = .returned (.tuple #[.int .i64 (nv l n i), .int .i64 (ne l i)]) ∧ w = w' := by
  have hE := edges_length l
  unfold nv ne
  by_cases hi : 0 ≤ i ∧ i < (l.length : Int) + 1
  · rw [if_pos hi, if_pos hi]
    obtain ⟨k, rfl⟩ := Int.eq_ofNat_of_zero_le hi.1
    exact Rt.Node_in h hn hn4 ⟨by omega, by omega⟩ k (by omega)
  · rw [if_neg hi, if_neg hi]
    exact Rt.Node_out h hn ⟨by omega, by omega⟩ i (by omega)
theorem Node_b (h : Are B w p l n) (h6 : l.length < 6) (hn : 1 ≤ n) (hn4 : n ≤ 4) (i : Int) :
    Calls Try.prog 23 #[RP p, .int .i64 i] w fun e w' => e = .returned (.tuple #[.int .i64 (nv l n i), .int .i64 (ne l i)]) ∧ w = w' := by
  unfold nv ne
  by_cases hi : 0 ≤ i ∧ i < (l.length : Int) + 1
  · rw [if_pos hi, if_pos hi]
    obtain ⟨k, rfl⟩ := Int.eq_ofNat_of_zero_le hi.1
    exact Node_in h h6 hn hn4 k (by omega)
  · rw [if_neg hi, if_neg hi]
    exact Node_out h h6 i hi
theorem Span_a (h : Rt.Are B w R (edges l) n) (hn : 1 ≤ n) (h6 : l.length < 6) (i : Int) :
    Calls Try.prog 14 #[RP R, .int .i64 i] w fun e w' => e = .returned (.tuple #[Sp (sF l i) (sT l i), .int .i64 (ne l i)]) ∧ Below w.heap.size w w' := by
  have hE := edges_length l
  unfold sF sT ne
  by_cases hi : 0 ≤ i ∧ i < (l.length : Int) + 1
  · rw [if_pos hi, if_pos hi, if_pos hi]
    obtain ⟨k, rfl⟩ := Int.eq_ofNat_of_zero_le hi.1
    rw [Int.toNat_natCast]
    exact Rt.Span_in h hn ⟨by omega, by omega⟩ k (by omega)
  · rw [if_neg hi, if_neg hi, if_neg hi]
    exact Rt.Span_out h hn ⟨by omega, by omega⟩ i (by omega)
theorem Span_b (h : Are B w p l n) (h6 : l.length < 6) (i : Int) :
    Calls Try.prog 24 #[RP p, .int .i64 i] w fun e w' => e = .returned (.tuple #[Sp (sF l i) (sT l i), .int .i64 (ne l i)]) ∧ Below w.heap.size w w' := by
  unfold sF sT ne
  by_cases hi : 0 ≤ i ∧ i < (l.length : Int) + 1
  · rw [if_pos hi, if_pos hi, if_pos hi]
    obtain ⟨k, rfl⟩ := Int.eq_ofNat_of_zero_le hi.1
    rw [Int.toNat_natCast]
    exact Span_in h h6 k (by omega)
  · rw [if_neg hi, if_neg hi, if_neg hi]
    exact Span_out h h6 i hi
end

theorem Are.keep {B : Nat} {w w' : World} {p : Nat} {l : List ByteArray} {n : Int} (h : Are B w p l n) {S : Nat → Prop} (ht : Turns S w w') (hS : ∀ k, B ≤ k → ¬ S k) : Are B w' p l n := by
  obtain ⟨u, h⟩ := h
  exact ⟨u, ht.blk h.hdr (hS _ h.bp), owns_keep h.own ht (fun g hg => hS g (h.own.lt g hg).1), h.bp⟩
theorem keepR {B : Nat} {w w' : World} {R : Nat} {E : List ByteArray} {n : Int} (h : Rt.Are B w R E n) {S : Nat → Prop} (ht : Turns S w w') (hS : ∀ k, B ≤ k → ¬ S k) : Rt.Are B w' R E n :=
  h.keep fun k hB hk => ht.block k hk (hS k hB)
theorem strs_turns {w w' : World} {A : Option Addr} {len cap : Nat} {l : List ByteArray} (h : Strs w A len cap l) {S : Nat → Prop} (ht : Turns S w w') (hS : ∀ g o, A = some ⟨g, o, none⟩ → ¬ S g) : Strs w' A len cap l :=
  ⟨h.hlen, h.hcap, h.nil, fun k x hx => by
    obtain ⟨g, o, hA, hc⟩ := h.cell k x hx
    exact ⟨g, o, hA, (World.cell?_of_block (w := w) (a := ⟨g, o + k, none⟩) (ht.block g (World.block_lt_of_cell? w _ hc) (hS g o hA))).trans hc⟩⟩

/-- a copy of the splits: what is left of it behind k rounds -/
structure Rest (w : World) (A : Option Addr) (l : List ByteArray) (k : Nat) : Prop where
  cel : ∀ (j : Nat) (x : ByteArray), k ≤ j → l[j]? = some x → ∃ g, A = some ⟨g, 0, none⟩ ∧ w.cell? ⟨g, j, none⟩ = some (.string x) ∧ w.frozen? ⟨g, j, none⟩ = false
def blockOf (A : Option Addr) (b : Nat) : Prop := ∃ a, A = some a ∧ a.block = b
def InRel (A : Option Addr) (l : List ByteArray) (w : World) (cnt : Nat) (s : Value) (w1 : World) : Prop :=
  ∃ k, k + cnt = l.length ∧ s = .int .i64 (k : Nat) ∧ Rest w1 A l k ∧ Turns (blockOf A) w w1
theorem InRel.next {g : Nat} {l : List ByteArray} {w wr : World} {k : Nat} (hk : k < l.length) (h : Rest wr (some ⟨g, 0, none⟩) l k) (ht : Turns (blockOf (some ⟨g, 0, none⟩)) w wr) (u : Value) (q : Nat) :
    InRel (some ⟨g, 0, none⟩) l w (l.length - (k + 1)) (.int .i64 ((k : Int) + 1)) ((wr.setCell ⟨g, k, none⟩ u).drewN q) := by
  refine ⟨k + 1, by omega, by simp, ⟨fun j x hj hx => ?_⟩, ?_⟩
  · obtain ⟨g', hA, hc, hf⟩ := h.cel j x (by omega) hx
    obtain rfl : g = g' := by simpa using hA
    refine ⟨g, rfl, ?_, ?_⟩
    · exact (World.cell?_setCell_other (w := wr) (a := ⟨g, k, none⟩) (b := ⟨g, j, none⟩) (v := u) (by intro e; injection e with _ e; omega)).trans hc
    · show (wr.setCell ⟨g, k, none⟩ u).frozen? _ = _
      rw [World.frozen?_setCell]; exact hf
  · have h2 : Turns (blockOf (some ⟨g, 0, none⟩)) w (wr.setCell ⟨g, k, none⟩ u) := ht.setCell (p := ⟨g, k, none⟩) (fun _ => ⟨_, rfl, rfl⟩) u
    exact ⟨h2.os, h2.tape, h2.output, h2.size, h2.block⟩

end Rr
end Go.Proofs.Ytpkiiimbichooaa
