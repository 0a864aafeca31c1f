/-
  Walks: the reference's table: New, at, Len.
-/
import Derived.Test.YtoglklldclgcbaaTbRef
import Derived.Test.YtoglklldclgcbaaTbSame
namespace Go.Proofs.Ytoglklldclgcbaa
open Go.RowKit Sk
namespace Tb

/-- the reference's table lies at p, its rows in the slice v; all its blocks are of the set R -/
structure RefIs (R : Nat → Prop) (w : World) (p : Nat) (v : Value) (rows : List Row) : Prop where
  hdr : Blk w p 37 #[v]
  own : w.ownsRow 0 39 2 v rows.length (flat rcR rows)
  rp : R p
  rv : ∀ g, v.ownBlock = some g → R g
theorem RefIs.keep {R : Nat → Prop} {w w' : World} {p : Nat} {v : Value} {rows : List Row} (h : RefIs R w p v rows) {S : Nat → Prop} (ht : Turns S w w') (hS : ∀ k, R k → ¬ S k) : RefIs R w' p v rows :=
  ⟨ht.blk h.hdr (hS _ h.rp), owns_keep h.own ht (fun g hg => hS g (h.rv g hg)), h.rp, h.rv⟩

def AtR (key : ByteArray) (rows : List Row) (w : World) (cnt : Nat) (s : Value) (w1 : World) : Prop := ∃ k, k + cnt = rows.length ∧ s = .int .i64 (k : Nat) ∧ k ≤ (lo Row.k key rows).length ∧ w1 = w

theorem lo_len_le (key : ByteArray) (rows : List Row) : (lo Row.k key rows).length ≤ rows.length := by have := lohi_len key rows; omega
theorem lo_at {key : ByteArray} {rows : List Row} {k : Nat} {x : Row} (hk : k ≤ (lo Row.k key rows).length) (hx : rows[k]? = some x) : (kl x.k key = true ∧ k + 1 ≤ (lo Row.k key rows).length) ∨ (kl x.k key = false ∧ k = (lo Row.k key rows).length) := by
  have e := lo_hi Row.k key rows
  by_cases h : k < (lo Row.k key rows).length
  · left
    rw [← e, List.getElem?_append_left h] at hx
    exact ⟨lo_below Row.k x (List.mem_of_getElem? hx), h⟩
  · right
    have hk2 : k = (lo Row.k key rows).length := by omega
    rw [← e, List.getElem?_append_right (by omega), hk2, Nat.sub_self] at hx
    cases h2 : hi Row.k key rows with
    | nil => rw [h2] at hx; cases hx
    | cons z r =>
      rw [h2] at hx
      have hz := hi_head Row.k h2
      simp at hx
      rw [← hx]
      exact ⟨hz, hk2⟩

set_option maxHeartbeats 1000000 in
theorem at_ref (R : Nat → Prop) (p : Nat) (v : Value) (rows : List Row) (key : ByteArray) (w : World) (h : RefIs R w p v rows) (hlen : rows.length ≤ 1000000) :
    Calls Try.prog 42 #[TP p, .string key] w fun e w' => e = .returned (.int .i64 (lo Row.k key rows).length) ∧ w = w' := by
  obtain ⟨A, c, rfl, hcs⟩ := Rws.of_owns h.own
  have c0 : w.cell? ⟨p, 0, none⟩ = some (.slice A rows.length c) := h.hdr.cell 0
  have HC := Lib.hid hcs
  obtain ⟨n, hn⟩ : ∃ n, n = rows.length := ⟨_, rfl⟩
  have HN := Lib.hid hn
  rw [← hn] at hlen c0
  have HL := Lib.hid (lo_len_le key rows)
  clear h hcs hn
  go_enter Try.func42, Try.ntmps42
  go_wp2
  go_loopg [5] n (fun cnt s w1 => AtR key rows w cnt s w1)
  case atStart => exact ⟨0, by have := HN.out; omega, rfl, Nat.zero_le _, rfl⟩
  case round =>
    obtain ⟨k, hk, rfl, hkl, rfl⟩ := hrel
    rw [← HN.out] at hk
    have HK := Lib.hid (And.intro hk hkl)
    by_cases hlt : k < n
    · obtain ⟨x, hx⟩ : ∃ x, rows[k]? = some x := ⟨_, List.getElem?_eq_getElem (show k < rows.length by rw [← HN.out]; exact hlt)⟩
      obtain ⟨g, o, rfl, x0, x1⟩ := HC.out k x hx
      have b1 : (k : Int) < (n : Int) := by omega
      have b2 : (0 : Int) ≤ (k : Int) := by omega
      have b3 : (n : Int) ≤ 1000000 := by omega
      rcases lo_at hkl hx with ⟨e1, e2⟩ | ⟨e1, e2⟩
      · have t1 : Op.bytesLess x.k.toList key.toList = true := e1
        have HNX : Hid (AtR key rows wr (n - (k + 1)) (.int .i64 ((k : Int) + 1)) wr) := ⟨k + 1, by rw [← HN.out]; omega, by simp, e2, rfl⟩
        clear hk hkl hx e1 e2
        go_wp2
        go_roundg (n - (k + 1))
        case measure => have := HK.out.1; omega
        case rel => exact HNX.out
      · have t1 : Op.bytesLess x.k.toList key.toList = false := e1
        have HE := Lib.hid e2
        clear hk hkl hx e1 e2
        go_wp2
        go_ret
        exact ⟨by rw [← HE.out]; rfl, rfl⟩
    · have ek : decide ((k : Int) < (n : Int)) = false := by simp; omega
      have ek2 : decide (k < n) = false := by simp; omega
      have HE : Hid (k = (lo Row.k key rows).length) := by have := HL.out; have := HN.out; show _ = _; omega
      clear hk hkl
      go_wp2
      go_ret
      exact ⟨by rw [← HE.out]; rfl, rfl⟩

end Tb
end Go.Proofs.Ytoglklldclgcbaa
