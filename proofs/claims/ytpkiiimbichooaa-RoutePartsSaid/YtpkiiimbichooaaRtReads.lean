/-
  Walks: small functions of route and spans that read only: isKey, top, none, Shards, ask, Node; Check, Has, Meets, Of.
-/
import Derived.Test.YtpkiiimbichooaaRows
import Derived.Test.YtpkiiimbichooaaSkMem
import Derived.Test.YtpkiiimbichooaaRtPlain
import Derived.Test.YtpkiiimbichooaaRtShelf
import Derived.WalkKit
import Derived.WalkSpells
import Derived.WalkLawsBesides
import Derived.Lib.Hide
import Derived.Lib.MinMaxS
import Derived.Deep.LoopGhost
import Derived.Deep.QuietTactic
import Derived.BigQuiet
import Derived.Deep.RegionHeld3
import Derived.Outline
namespace Go.Proofs.Ytpkiiimbichooaa
open Go.RowKit Sk
namespace Rt

/-- a route lies in memory: its block, the block of its edges -/
structure Is (B : Nat) (w : World) (R : Nat) (E : List ByteArray) (n : Int) (g cap : Nat) (cs : Array Value) : Prop where
  hdr : Blk w R 61 #[.slice (some ⟨g, 0, none⟩) E.length cap, .int .i64 n]
  row : Blk w g 9 cs
  cells : ∀ (k : Nat) (x : ByteArray), E[k]? = some x → cs[k]? = some (Value.string x)
  bR : B ≤ R
  bg : B ≤ g
def Are (B : Nat) (w : World) (R : Nat) (E : List ByteArray) (n : Int) : Prop := ∃ g cap cs, Is B w R E n g cap cs

theorem Are.keep {B : Nat} {w w' : World} {R : Nat} {E : List ByteArray} {n : Int} (h : Are B w R E n) (hk : ∀ k, B ≤ k → k < w.heap.size → w'.heap[k]? = w.heap[k]?) : Are B w' R E n := by
  obtain ⟨g, cap, cs, h⟩ := h
  exact ⟨g, cap, cs, (hk R h.bR h.hdr.lt).trans h.hdr, (hk g h.bg h.row.lt).trans h.row, h.cells, h.bR, h.bg⟩
theorem Are.below {B : Nat} {w w' : World} {R : Nat} {E : List ByteArray} {n : Int} (h : Are B w R E n) (hb : Below w.heap.size w w') : Are B w' R E n := h.keep fun k _ hk => hb.block k hk
theorem Are.mono {B B' : Nat} {w : World} {R : Nat} {E : List ByteArray} {n : Int} (h : Are B w R E n) (hB : B' ≤ B) : Are B' w R E n := by
  obtain ⟨g, cap, cs, h⟩ := h
  exact ⟨g, cap, cs, h.hdr, h.row, h.cells, Nat.le_trans hB h.bR, Nat.le_trans hB h.bg⟩
theorem Is.edge {B : Nat} {w : World} {R : Nat} {E : List ByteArray} {n : Int} {g cap : Nat} {cs : Array Value} (h : Is B w R E n g cap cs) {i : Nat} (hi : i < E.length) : w.cell? ⟨g, i, none⟩ = some (.string (ed E i)) :=
  (h.row.cell i).trans (h.cells i _ (ed_get hi))

theorem rb {v : Value} {x y : Bool} (h : x = y) (hv : v = .bool y) : Ending.returned v = .returned (.bool x) := by rw [hv, h]
theorem ri {v : Value} {k : IntKind} {x y : Int} (h : x = y) (hv : v = .int k y) : Ending.returned v = .returned (.int k x) := by rw [hv, h]

abbrev RP (R : Nat) : Value := .pointer (some ⟨R, 0, none⟩)

set_option maxHeartbeats 400000 in
theorem isKey_any (s : ByteArray) (w : World) : Calls Try.prog 27 #[.string s] w fun e w' => e = .returned (.bool (isK s)) ∧ w = w' := by
  by_cases h0 : s.size = 0
  · have hl : s.toList = [] := by rw [← List.length_eq_zero_iff, size_toList]; exact h0
    have hf : isK s = false := by unfold isK; rw [decide_eq_false_iff_not]; omega
    have HF := Lib.hid hf
    clear hf h0
    go_enter Try.func27, Try.ntmps27
    go_wp2
    go_ret
    exact ⟨rb HF.out rfl, rfl⟩
  · have hl : s.toList ≠ [] := by rw [← List.length_pos_iff, size_toList]; omega
    have hl2 : s.toList.isEmpty = false := by cases h : s.toList <;> simp_all
    by_cases h1 : s.size ≤ 32
    · have hf : isK s = true := by unfold isK; rw [decide_eq_true_eq]; omega
      have HF := Lib.hid hf
      have hd : decide ((s.size : Int) ≤ 32) = true := by simp; omega
      clear hf h0
      go_enter Try.func27, Try.ntmps27
      go_wp2
      go_ret
      exact ⟨rb HF.out rfl, rfl⟩
    · have hf : isK s = false := by unfold isK; rw [decide_eq_false_iff_not]; omega
      have HF := Lib.hid hf
      have hd : decide ((s.size : Int) ≤ 32) = false := by simp; omega
      clear hf h0
      go_enter Try.func27, Try.ntmps27
      go_wp2
      go_ret
      exact ⟨rb HF.out rfl, rfl⟩

theorem top_repeat : (⟨(Lib.repeatL (⟨#[255]⟩ : ByteArray).data.toList 33).toArray⟩ : ByteArray) = top := by kernel_rfl

theorem repeat_top (w : World) : Calls Try.prog 19 #[.string ⟨#[255]⟩, .int .i64 33] w fun e w' => e = .returned (.string top) ∧ Below w.heap.size w w' :=
  (Try.strings_Repeat ⟨#[255]⟩ 33 w (by omega) (by decide)).mono fun _ _ ⟨he, hb⟩ => ⟨he, hb⟩

set_option maxHeartbeats 400000 in
theorem top_any (w : World) : Calls Try.prog 28 #[] w fun e w' => e = .returned (.string top) ∧ Below w.heap.size w w' := by
  go_enter Try.func28, Try.ntmps28
  go_wp2_with fail
  refine (repeat_top _).mono ?_
  rintro e w1 ⟨rfl, hb⟩
  go_wp2
  go_ret
  exact ⟨rfl, hb⟩

set_option maxHeartbeats 400000 in
theorem none_no (R : Nat) (n : Int) (w : World) (hc : w.cell? ⟨R, 1, none⟩ = some (.int .i64 n)) (hn : 1 ≤ n) :
    Calls Try.prog 29 #[RP R] w fun e w' => e = .returned (.bool false) ∧ w = w' := by
  have hz : (n == 0) = false := by simp; omega
  go_enter Try.func29, Try.ntmps29
  go_wp2
  go_ret
  exact ⟨rfl, rfl⟩
set_option maxHeartbeats 400000 in
theorem none_nil (w : World) : Calls Try.prog 29 #[.pointer none] w fun e w' => e = .returned (.bool true) ∧ w = w' := by
  go_enter Try.func29, Try.ntmps29
  go_wp2
  go_ret
  exact ⟨rfl, rfl⟩
set_option maxHeartbeats 400000 in
theorem none_bare (R : Nat) (w : World) (hc : w.cell? ⟨R, 1, none⟩ = some (.int .i64 0)) : Calls Try.prog 29 #[RP R] w fun e w' => e = .returned (.bool true) ∧ w = w' := by
  go_enter Try.func29, Try.ntmps29
  go_wp2
  go_ret
  exact ⟨rfl, rfl⟩

section
variable {B R : Nat} {E : List ByteArray} {n : Int} {w : World}
theorem Are.n1 (h : Are B w R E n) : w.cell? ⟨R, 1, none⟩ = some (.int .i64 n) := by
  obtain ⟨g, cap, cs, h⟩ := h
  exact h.hdr.cell 1

set_option maxHeartbeats 400000 in
theorem Shards_any (h : Are B w R E n) (hn : 1 ≤ n) (hE : 1 ≤ E.length ∧ E.length ≤ 7) :
    Calls Try.prog 13 #[RP R] w fun e w' => e = .returned (.int .i64 (E.length - 1 : Nat)) ∧ w = w' := by
  have h1 := Lib.hid (none_no R n w h.n1 hn)
  obtain ⟨g, cap, cs, h⟩ := h
  have c0 : w.cell? ⟨R, 0, none⟩ = some (.slice (some ⟨g, 0, none⟩) E.length cap) := h.hdr.cell 0
  obtain ⟨a, b⟩ := hE
  have hz : ((E.length - 1 : Nat) : Int) = (E.length : Int) - 1 := by omega
  have HZ := Lib.hid hz
  clear h hz hn
  go_enter Try.func13, Try.ntmps13
  go_wp2_with fail
  refine h1.out.mono ?_
  rintro e w' ⟨rfl, rfl⟩
  go_wp2
  go_ret
  exact ⟨ri HZ.out rfl, rfl⟩

/-- the error of a shard's number -/
def askE (m : Nat) (i : Int) : Int := if 0 ≤ i ∧ i < m then 0 else 9
set_option maxHeartbeats 400000 in
theorem ask_any (h : Are B w R E n) (hn : 1 ≤ n) (hE : 1 ≤ E.length ∧ E.length ≤ 7) (i : Int) :
    Calls Try.prog 31 #[RP R, .int .i64 i] w fun e w' => e = .returned (.int .i64 (askE (E.length - 1) i)) ∧ w = w' := by
  have h1 := Lib.hid (none_no R n w h.n1 hn)
  have h2 := Lib.hid (Shards_any h hn hE)
  clear h hn
  obtain ⟨m, hm⟩ : ∃ m, m = E.length - 1 := ⟨_, rfl⟩
  rw [← hm] at h2 ⊢
  clear hE hm
  by_cases hi : i < 0
  · have hd : decide (i < 0) = true := by simpa using hi
    have HF := Lib.hid (show askE m i = 9 by unfold askE; rw [if_neg (by omega)])
    go_enter Try.func31, Try.ntmps31
    go_wp2_with fail
    refine h1.out.mono ?_
    rintro e w' ⟨rfl, rfl⟩
    go_wp2
    go_ret
    exact ⟨ri HF.out rfl, rfl⟩
  · have hd : decide (i < 0) = false := by simpa using hi
    by_cases hj : i < m
    · have hd2 : decide ((m : Int) ≤ i) = false := by simp; omega
      have HF := Lib.hid (show askE m i = 0 by unfold askE; rw [if_pos (by omega)])
      go_enter Try.func31, Try.ntmps31
      go_wp2_with fail
      refine h1.out.mono ?_
      rintro e w' ⟨rfl, rfl⟩
      go_wp2_with fail
      refine h2.out.mono ?_
      rintro e w' ⟨rfl, rfl⟩
      go_wp2
      go_ret
      exact ⟨ri HF.out rfl, rfl⟩
    · have hd2 : decide ((m : Int) ≤ i) = true := by simp; omega
      have HF := Lib.hid (show askE m i = 9 by unfold askE; rw [if_neg (by omega)])
      go_enter Try.func31, Try.ntmps31
      go_wp2_with fail
      refine h1.out.mono ?_
      rintro e w' ⟨rfl, rfl⟩
      go_wp2_with fail
      refine h2.out.mono ?_
      rintro e w' ⟨rfl, rfl⟩
      go_wp2
      go_ret
      exact ⟨ri HF.out rfl, rfl⟩

set_option maxHeartbeats 400000 in
theorem Node_out (h : Are B w R E n) (hn : 1 ≤ n) (hE : 1 ≤ E.length ∧ E.length ≤ 7) (i : Int) (hi : ¬ (0 ≤ i ∧ i < (E.length - 1 : Nat))) :
    Calls Try.prog 17 #[RP R, .int .i64 i] w fun e w' => e = .returned (.tuple #[.int .i64 0, .int .i64 9]) ∧ w = w' := by
  have h1 := ask_any h hn hE i
  have hf : askE (E.length - 1) i = 9 := by unfold askE; rw [if_neg hi]
  rw [hf] at h1
  have H1 := Lib.hid h1
  clear h hn hE hi h1 hf
  go_enter Try.func17, Try.ntmps17
  go_wp2_with fail
  refine H1.out.mono ?_
  rintro e w' ⟨rfl, rfl⟩
  go_wp2
  go_ret2
  exact ⟨rfl, rfl⟩
set_option maxHeartbeats 400000 in
theorem Node_in (h : Are B w R E n) (hn : 1 ≤ n) (hn4 : n ≤ 4) (hE : 1 ≤ E.length ∧ E.length ≤ 7) (i : Nat) (hi : i < E.length - 1) :
    Calls Try.prog 17 #[RP R, .int .i64 i] w fun e w' => e = .returned (.tuple #[.int .i64 (1 + (i : Int) % n), .int .i64 0]) ∧ w = w' := by
  have h1 := ask_any h hn hE i
  have hf : askE (E.length - 1) i = 0 := by unfold askE; rw [if_pos (by omega)]
  rw [hf] at h1
  have H1 := Lib.hid h1
  have c1 := h.n1
  have hi6 : i ≤ 6 := by omega
  have hz : (n == 0) = false := by simp; omega
  have q1 : (0 : Int) ≤ (i : Int) % n := Int.emod_nonneg _ (by omega)
  have q2 : (i : Int) % n ≤ 3 := by have := Int.emod_lt_of_pos (i : Int) (show 0 < n by omega); omega
  clear h hE hi h1 hf
  go_enter Try.func17, Try.ntmps17
  go_wp2_with fail
  refine H1.out.mono ?_
  rintro e w' ⟨rfl, rfl⟩
  go_wp2
  go_ret2
  exact ⟨rfl, rfl⟩
end

/-! ### spans -/
def chk (a b : ByteArray) : Int := if 33 < a.size ∨ 33 < b.size then 5 else if kl a b = true then 0 else 2
def hs (a b key : ByteArray) : Bool := !kl key a && kl key b
abbrev Sp (a b : ByteArray) : Value := .agg #[.string a, .string b]

set_option maxHeartbeats 400000 in
theorem Check_any (a b : ByteArray) (w : World) : Calls Try.prog 15 #[Sp a b] w fun e w' => e = .returned (.int .i64 (chk a b)) ∧ Below w.heap.size w w' := by
  by_cases ha : 33 < a.size
  · have hd : decide ((33 : Int) < (a.size : Int)) = true := by simp; omega
    have HF := Lib.hid (show chk a b = 5 by unfold chk; rw [if_pos (.inl ha)])
    go_enter Try.func15, Try.ntmps15
    go_wp2
    go_ret
    exact ⟨ri HF.out rfl, (Below.refl _ _).alloc (Nat.le_refl _) _⟩
  · have hd : decide ((33 : Int) < (a.size : Int)) = false := by simp; omega
    by_cases hb : 33 < b.size
    · have hd2 : decide ((33 : Int) < (b.size : Int)) = true := by simp; omega
      have HF := Lib.hid (show chk a b = 5 by unfold chk; rw [if_pos (.inr hb)])
      go_enter Try.func15, Try.ntmps15
      go_wp2
      go_ret
      exact ⟨ri HF.out rfl, (Below.refl _ _).alloc (Nat.le_refl _) _⟩
    · have hd2 : decide ((33 : Int) < (b.size : Int)) = false := by simp; omega
      cases hk : kl a b with
      | true =>
        have hk' : Op.bytesLess a.toList b.toList = true := hk
        have HF := Lib.hid (show chk a b = 0 by unfold chk; rw [if_neg (by omega), if_pos hk])
        clear hk
        go_enter Try.func15, Try.ntmps15
        go_wp2
        go_ret
        exact ⟨ri HF.out rfl, (Below.refl _ _).alloc (Nat.le_refl _) _⟩
      | false =>
        have hk' : Op.bytesLess a.toList b.toList = false := hk
        have HF := Lib.hid (show chk a b = 2 by unfold chk; rw [if_neg (by omega), if_neg (by rw [hk]; simp)])
        clear hk
        go_enter Try.func15, Try.ntmps15
        go_wp2
        go_ret
        exact ⟨ri HF.out rfl, (Below.refl _ _).alloc (Nat.le_refl _) _⟩

theorem le_of_kl (a key : ByteArray) : (Op.bytesLess a.toList key.toList || a.toList == key.toList) = !kl key a := by
  cases h : kl key a with
  | true =>
    have h1 : Op.bytesLess a.toList key.toList = false := kl_asymm h
    have h2 : (a.toList == key.toList) = false := keq_false (fun e => by rw [e, kl_irrefl] at h; cases h)
    rw [h1, h2]; rfl
  | false =>
    cases h1 : kl a key with
    | true => have h1' : Op.bytesLess a.toList key.toList = true := h1; rw [h1']; rfl
    | false => rw [kl_total h1 h]; simp

set_option maxHeartbeats 400000 in
theorem Has_any (a b key : ByteArray) (w : World) : Calls Try.prog 16 #[Sp a b, .string key] w fun e w' => e = .returned (.bool (hs a b key)) ∧ Below w.heap.size w w' := by
  have hle := le_of_kl a key
  cases ha : kl key a with
  | true =>
    rw [ha] at hle
    have HF := Lib.hid (show hs a b key = false by unfold hs; rw [ha]; rfl)
    have h1 : Op.bytesLess a.toList key.toList = false := kl_asymm ha
    have h2 : (a.toList == key.toList) = false := keq_false (fun e => by rw [e, kl_irrefl] at ha; cases ha)
    clear ha hle
    go_enter Try.func16, Try.ntmps16
    go_wp2
    go_ret
    exact ⟨rb HF.out rfl, (Below.refl _ _).alloc (Nat.le_refl _) _⟩
  | false =>
    have HF := Lib.hid (show hs a b key = kl key b by unfold hs; rw [ha]; simp)
    have hle' : (Op.bytesLess a.toList key.toList || a.toList == key.toList) = true := by rw [hle, ha]; rfl
    clear ha hle
    cases h1 : Op.bytesLess a.toList key.toList with
    | true =>
      clear hle'
      go_enter Try.func16, Try.ntmps16
      go_wp2
      go_ret
      exact ⟨rb HF.out rfl, (Below.refl _ _).alloc (Nat.le_refl _) _⟩
    | false =>
      have h2 : (a.toList == key.toList) = true := by rw [h1] at hle'; simpa using hle'
      clear hle'
      go_enter Try.func16, Try.ntmps16
      go_wp2
      go_ret
      exact ⟨rb HF.out rfl, (Below.refl _ _).alloc (Nat.le_refl _) _⟩

def mx (a b : ByteArray) : ByteArray := if kl a b = true then b else a
def mn (a b : ByteArray) : ByteArray := if kl b a = true then b else a
theorem run_mx {P : Program} (w : World) (ts : Array TypeId) (t : TypeId) (x y : ByteArray) : (Builtin.max_ ts t #[.string x, .string y]).run P w = .ok (.string (mx x y)) w := by
  cases h : kl x y <;> (have h' : Op.bytesLess x.toList y.toList = _ := h; simp [Builtin.max_, Builtin.max2, Op.stringOp, asBool, mx, h, h'])
theorem run_mn {P : Program} (w : World) (ts : Array TypeId) (t : TypeId) (x y : ByteArray) : (Builtin.min_ ts t #[.string x, .string y]).run P w = .ok (.string (mn x y)) w := by
  have hle := le_of_kl x y
  cases h : kl y x
  · rw [h] at hle
    simp [Builtin.min_, Builtin.min2, Op.stringOp, asBool, mn, h]
    intro h1 h2
    simp [h1, h2] at hle
  · rw [h] at hle
    simp at hle
    simp [Builtin.min_, Builtin.min2, Op.stringOp, asBool, mn, h, hle.1, hle.2]
/-- what two spans have in common -/
def meets (a b c d : ByteArray) : Bool := kl (mx a c) (mn b d)

set_option maxHeartbeats 400000 in
theorem Meets_any (a b c d : ByteArray) (w : World) : Calls Try.prog 32 #[Sp a b, Sp c d] w fun e w' => e = .returned (.bool (meets a b c d)) ∧ Below w.heap.size w w' := by
  have hx := fun (w : World) (ts : Array TypeId) (t : TypeId) => run_mx (P := Try.prog) w ts t a c
  have hy := fun (w : World) (ts : Array TypeId) (t : TypeId) => run_mn (P := Try.prog) w ts t b d
  go_enter Try.func32, Try.ntmps32
  go_wp2
  go_ret
  exact ⟨rfl, ((Below.refl _ _).alloc (Nat.le_refl _) _).alloc (by simp) _⟩

end Rt
end Go.Proofs.Ytpkiiimbichooaa
