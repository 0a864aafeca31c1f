/-
  Walks: the reference's route (scriptoriumref25): key, top, New, Shards, Shard, Node, Span.
-/
import Derived.Test.YtpkiiimbichooaaRtKnownWalk
import Derived.Laws.IdiomStrings
namespace Go.Proofs.Ytpkiiimbichooaa
open Go.RowKit Sk
namespace Rr
open Rt

set_option maxHeartbeats 400000 in
theorem key_any (s : ByteArray) (w : World) : Calls Try.prog 39 #[.string s] w fun e w' => e = .returned (.bool (isK s)) ∧ w = w' := by
  by_cases h0 : s.size = 0
  · have hf : isK s = false := by unfold isK; rw [decide_eq_false_iff_not]; omega
    have hd : decide ((1 : Int) ≤ (s.size : Int)) = false := by simp; omega
    have HF := Lib.hid hf
    clear hf h0
    go_enter Try.func39, Try.ntmps39
    go_wp2
    go_ret
    exact ⟨rb HF.out rfl, rfl⟩
  · have hd : decide ((1 : Int) ≤ (s.size : Int)) = true := by simp; omega
    by_cases h1 : s.size ≤ 32
    · have hf : isK s = true := by unfold isK; rw [decide_eq_true_eq]; omega
      have HF := Lib.hid hf
      have hd2 : decide ((s.size : Int) ≤ 32) = true := by simp; omega
      clear hf h0
      go_enter Try.func39, Try.ntmps39
      go_wp2
      go_ret
      exact ⟨rb HF.out rfl, rfl⟩
    · have hf : isK s = false := by unfold isK; rw [decide_eq_false_iff_not]; omega
      have HF := Lib.hid hf
      have hd2 : decide ((s.size : Int) ≤ 32) = false := by simp; omega
      clear hf h0
      go_enter Try.func39, Try.ntmps39
      go_wp2
      go_ret
      exact ⟨rb HF.out rfl, rfl⟩

/-- a route of the reference lies in memory -/
structure Is (B : Nat) (w : World) (p : Nat) (l : List ByteArray) (n : Int) (u : Value) : Prop where
  hdr : Blk w p 82 #[u, .int .i64 n]
  own : w.ownsRow B 9 1 u l.length (l.map Value.string)
  bp : B ≤ p
def Are (B : Nat) (w : World) (p : Nat) (l : List ByteArray) (n : Int) : Prop := ∃ u, Is B w p l n u
theorem Are.below {B : Nat} {w w' : World} {p : Nat} {l : List ByteArray} {n : Int} (h : Are B w p l n) (hb : Below w.heap.size w w') : Are B w' p l n := by
  obtain ⟨u, h⟩ := h
  exact ⟨u, h.hdr.below hb h.hdr.lt, owns_keep h.own (S := fun _ => False) (Turns.of_below hb) (fun _ _ h => h), h.bp⟩
/-- the slice of splits, and its cells -/
theorem Is.form {B : Nat} {w : World} {p : Nat} {l : List ByteArray} {n : Int} {u : Value} (h : Is B w p l n u) : ∃ A c, u = .slice A l.length c ∧ ∀ (k : Nat) (x : ByteArray), l[k]? = some x → ∃ g, A = some ⟨g, 0, none⟩ ∧ w.cell? ⟨g, k, none⟩ = some (.string x) := by
  rcases owns_form h.own with ⟨hv, h0, _⟩ | ⟨g, cap, hv, _, _⟩
  · exact ⟨none, 0, by rw [hv, h0], fun k x hx => by have := (List.getElem?_eq_some_iff.1 hx).1; omega⟩
  · refine ⟨some ⟨g, 0, none⟩, cap, hv, fun k x hx => ⟨g, rfl, ?_⟩⟩
    have ho := h.own
    subst hv
    have := ho.cells (g := g) rfl k (.string x) (by rw [List.getElem?_map, hx]; rfl)
    rw [addr_add, Nat.zero_add] at this
    exact this

section
variable {B p : Nat} {l : List ByteArray} {n : Int} {w : World}
set_option maxHeartbeats 400000 in
theorem Shards_any (h : Are B w p l n) (h6 : l.length < 6) (m : Nat) (hm : m = l.length + 1) :
    Calls Try.prog 25 #[RP p] w fun e w' => e = .returned (.int .i64 (m : Nat)) ∧ w = w' := by
  obtain ⟨u, h⟩ := h
  obtain ⟨A, c, rfl, _⟩ := h.form
  have c0 : w.cell? ⟨p, 0, none⟩ = some (.slice A l.length c) := h.hdr.cell 0
  have HM := Lib.hid (show (m : Int) = (l.length : Int) + 1 by omega)
  clear h hm
  go_enter Try.func25, Try.ntmps25
  go_wp2
  go_ret
  exact ⟨ri HM.out rfl, rfl⟩

set_option maxHeartbeats 400000 in
theorem Node_out (h : Are B w p l n) (h6 : l.length < 6) (i : Int) (hi : ¬ (0 ≤ i ∧ i < (l.length : Int) + 1)) :
    Calls Try.prog 23 #[RP p, .int .i64 i] w fun e w' => e = .returned (.tuple #[.int .i64 0, .int .i64 9]) ∧ w = w' := by
  obtain ⟨m, hm⟩ : ∃ m, m = l.length + 1 := ⟨_, rfl⟩
  have H := Lib.hid (Shards_any h h6 m hm)
  by_cases h0 : i < 0
  · have hd : decide (i < 0) = true := by simpa using h0
    clear h h6 hm hi
    go_enter Try.func23, Try.ntmps23
    go_wp2
    go_ret2
    exact ⟨rfl, rfl⟩
  · have hd : decide (i < 0) = false := by simpa using h0
    have hd2 : decide ((m : Int) ≤ i) = true := by simp; omega
    clear h h6 hm hi
    go_enter Try.func23, Try.ntmps23
    go_wp2_with fail
    refine H.out.mono ?_
    rintro e w' ⟨rfl, rfl⟩
    go_wp2
    go_ret2
    exact ⟨rfl, rfl⟩
set_option maxHeartbeats 400000 in
theorem Node_in (h : Are B w p l n) (h6 : l.length < 6) (hn : 1 ≤ n) (hn4 : n ≤ 4) (i : Nat) (hi : i < l.length + 1) :
    Calls Try.prog 23 #[RP p, .int .i64 i] w fun e w' => e = .returned (.tuple #[.int .i64 (1 + (i : Int) % n), .int .i64 0]) ∧ w = w' := by
  obtain ⟨m, hm⟩ : ∃ m, m = l.length + 1 := ⟨_, rfl⟩
  have H := Lib.hid (Shards_any h h6 m hm)
  obtain ⟨u, h⟩ := h
  have c1 : w.cell? ⟨p, 1, none⟩ = some (.int .i64 n) := h.hdr.cell 1
  have hd2 : decide ((m : Int) ≤ (i : Int)) = false := by simp; omega
  have hd3 : decide (m ≤ i) = false := by simp; omega
  have hz : (n == 0) = false := by simp; omega
  have q1 : (0 : Int) ≤ (i : Int) % n := Int.emod_nonneg _ (by omega)
  have q2 : (i : Int) % n ≤ 3 := by have := Int.emod_lt_of_pos (i : Int) (show 0 < n by omega); omega
  clear h h6 hm
  go_enter Try.func23, Try.ntmps23
  go_wp2_with fail
  refine H.out.mono ?_
  rintro e w' ⟨rfl, rfl⟩
  go_wp2
  go_ret2
  exact ⟨rfl, rfl⟩

set_option maxHeartbeats 400000 in
theorem Shard_out (_h : Are B w p l n) (key : ByteArray) (hk : isK key = false) :
    Calls Try.prog 22 #[RP p, .string key] w fun e w' => e = .returned (.tuple #[.int .i64 0, .int .i64 2]) ∧ w = w' := by
  have h2 := key_any key w
  rw [hk] at h2
  have H2 := Lib.hid h2
  clear h2 hk
  go_enter Try.func22, Try.ntmps22
  go_wp2_with fail
  refine H2.out.mono ?_
  rintro e w' ⟨rfl, rfl⟩
  go_wp2
  go_ret2
  exact ⟨rfl, rfl⟩

/-- how many splits are not above a key -/
def cntL (key : ByteArray) (l : List ByteArray) : Nat := (l.filter fun s => !kl key s).length
theorem cntL_take {key : ByteArray} {l : List ByteArray} {k : Nat} {x : ByteArray} (hx : l[k]? = some x) : cntL key (l.take (k + 1)) = cntL key (l.take k) + (if kl key x = true then 0 else 1) := by
  unfold cntL
  obtain ⟨hk, rfl⟩ := List.getElem?_eq_some_iff.1 hx
  rw [List.take_succ_eq_append_getElem hk, List.filter_append, List.length_append]
  cases h : kl key l[k] <;> simp [h]
theorem cntL_le (key : ByteArray) (l : List ByteArray) (k : Nat) : cntL key (l.take k) ≤ l.length := by
  unfold cntL
  exact Nat.le_trans (List.length_filter_le _ _) (by simp; omega)
def ShRel (key : ByteArray) (l : List ByteArray) (w : World) (cnt : Nat) (s6 s7 : Value) (w1 : World) : Prop :=
  ∃ k, k + cnt = l.length ∧ s6 = .int .i64 (cntL key (l.take k) : Nat) ∧ s7 = .int .i64 (k : Nat) ∧ w1 = w
set_option maxHeartbeats 1000000 in
theorem Shard_in (h : Are B w p l n) (h6 : l.length < 6) (key : ByteArray) (hk : isK key = true) :
    Calls Try.prog 22 #[RP p, .string key] w fun e w' => e = .returned (.tuple #[.int .i64 (cntL key l : Nat), .int .i64 0]) ∧ w = w' := by
  have h2 := key_any key w
  rw [hk] at h2
  have H2 := Lib.hid h2
  obtain ⟨u, h⟩ := h
  obtain ⟨A, c, rfl, hcs⟩ := h.form
  have c0 : w.cell? ⟨p, 0, none⟩ = some (.slice A l.length c) := h.hdr.cell 0
  have HCS := Lib.hid hcs
  clear h h2 hk hcs
  go_enter Try.func22, Try.ntmps22
  go_wp2_with fail
  refine H2.out.mono ?_
  rintro e w' ⟨rfl, rfl⟩
  go_wp2
  go_loopg [6, 7] l.length (fun cnt s6 s7 w1 => ShRel key l w cnt s6 s7 w1)
  case atStart => exact ⟨0, by omega, rfl, rfl, rfl⟩
  case round =>
    obtain ⟨k, hk, rfl, rfl, rfl⟩ := hrel
    have HK := Lib.hid hk
    have hc6 : (cntL key (l.take k) : Int) ≤ 6 := by have := cntL_le key l k; omega
    by_cases hlt : k < l.length
    · have hget := List.getElem?_eq_getElem hlt
      obtain ⟨g, rfl, cx⟩ := HCS.out k _ hget
      have hstep := cntL_take (key := key) hget
      have HN : Hid (ShRel key l wr (l.length - (k + 1)) (.int .i64 ((cntL key (l.take k) : Int) + (if kl key l[k] = true then 0 else 1))) (.int .i64 ((k : Int) + 1)) wr) :=
        ⟨k + 1, by omega, by rw [hstep]; split <;> simp, by simp, rfl⟩
      have hle := le_of_kl l[k] key
      generalize l[k] = x at *
      generalize cntL key (l.take k) = many at *
      cases hx : kl key x with
      | true =>
        rw [hx] at hle HN
        have h1 : Op.bytesLess x.toList key.toList = false := kl_asymm hx
        have h2 : (x.toList == key.toList) = false := keq_false (fun e => by rw [e, kl_irrefl] at hx; cases hx)
        clear hget hstep hk hle hx
        go_wp2
        go_roundg (l.length - (k + 1))
        case measure => have := HK.out; omega
        case rel => exact by simpa using HN.out
      | false =>
        rw [hx] at hle HN
        cases h1 : Op.bytesLess x.toList key.toList with
        | true =>
          clear hget hstep hk hle hx
          go_wp2
          go_roundg (l.length - (k + 1))
          case measure => have := HK.out; omega
          case rel => exact by simpa using HN.out
        | false =>
          have h2 : (x.toList == key.toList) = true := by rw [h1] at hle; simpa using hle
          clear hget hstep hk hle hx
          go_wp2
          go_roundg (l.length - (k + 1))
          case measure => have := HK.out; omega
          case rel => exact by simpa using HN.out
    · have ek : decide (k < l.length) = false := by simp; omega
      have hkl : l.take k = l := List.take_of_length_le (by omega)
      rw [hkl] at hc6 ⊢
      clear hk hlt hkl
      go_wp2
      go_ret2
      exact ⟨rfl, rfl⟩
end

end Rr
end Go.Proofs.Ytpkiiimbichooaa
