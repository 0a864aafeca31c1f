/-
  Walks: the reference's table: New, Len, Get.
-/
import Derived.Test.YtoglklldclgcbaaTbRefAt
namespace Go.Proofs.Ytoglklldclgcbaa
open Go.RowKit Sk
namespace Tb

set_option maxHeartbeats 400000 in
theorem New_ref (sd : Int) (w : World) :
    Calls Try.prog 13 #[.int .i64 sd] w fun e w' => e = .returned (TP w.heap.size) ∧ w' = w.alloc (.cells #[.slice none 0 0] 37) := by
  go_enter Try.func13, Try.ntmps13
  go_wp2
  go_ret
  exact ⟨rfl, rfl⟩
set_option maxHeartbeats 400000 in
theorem Len_ref (R : Nat → Prop) (p : Nat) (v : Value) (rows : List Row) (w : World) (h : RefIs R w p v rows) :
    Calls Try.prog 17 #[TP p] w fun e w' => e = .returned (.int .i64 rows.length) ∧ w = w' := by
  obtain ⟨A, c, rfl, _⟩ := Rws.of_owns h.own
  have c0 : w.cell? ⟨p, 0, none⟩ = some (.slice A rows.length c) := h.hdr.cell 0
  clear h
  go_enter Try.func17, Try.ntmps17
  go_wp2
  go_ret
  exact ⟨rfl, rfl⟩
theorem hi_at {key : ByteArray} {rows : List Row} : rows[(lo Row.k key rows).length]? = (hi Row.k key rows).head? := by
  have e := lo_hi Row.k key rows
  generalize lo Row.k key rows = a at *
  generalize hi Row.k key rows = b at *
  subst e
  rw [List.getElem?_append_right (Nat.le_refl _), Nat.sub_self, List.head?_eq_getElem?]

set_option maxHeartbeats 1000000 in
theorem Get_ref (R : Nat → Prop) (p : Nat) (v : Value) (rows : List Row) (key : ByteArray) (w : World) (h : RefIs R w p v rows) (hlen : rows.length ≤ 1000000) :
    Calls Try.prog 22 #[TP p, .string key] w fun e w' => e = .returned (.tuple #[.string (getV key rows), .bool (getB key rows)]) ∧ ∃ q, w' = w.drewN q := by
  have HA := Lib.hid (at_ref R p v rows key w h hlen)
  obtain ⟨A, c, rfl, hcs⟩ := Rws.of_owns h.own
  have c0 : w.cell? ⟨p, 0, none⟩ = some (.slice A rows.length c) := h.hdr.cell 0
  have hx := hi_at (key := key) (rows := rows)
  have hll := lohi_len key rows
  have hsk : seek Row.k key rows = match hi Row.k key rows with | z :: _ => if (z.k.toList == key.toList) = true then some z else none | [] => none := by unfold seek; cases hi Row.k key rows <;> rfl
  cases hz : hi Row.k key rows with
  | nil =>
    have HG : Hid (getV key rows = ⟨#[]⟩ ∧ getB key rows = false) := by rw [hz] at hsk; unfold getV getB; rw [hsk]; exact ⟨rfl, rfl⟩
    rw [hz] at hll
    obtain ⟨k, hk⟩ : ∃ k, k = (lo Row.k key rows).length := ⟨_, rfl⟩
    rw [← hk] at HA hll
    obtain ⟨n, hn⟩ : ∃ n, n = rows.length := ⟨_, rfl⟩
    rw [← hn] at c0 hll hlen
    have ek : decide ((k : Int) < (n : Int)) = false := by simp at hll ⊢; omega
    have ek2 : decide (k < n) = false := by simp at hll ⊢; omega
    clear h hcs hx hsk hz hk hn hll
    go_enter Try.func22, Try.ntmps22
    go_wp2_with fail
    refine HA.out.mono ?_
    rintro e w' ⟨rfl, rfl⟩
    go_wp2
    go_ret2
    exact ⟨by rw [HG.out.1, HG.out.2]; rfl, 0, rfl⟩
  | cons z r =>
    rw [hz] at hx hsk hll
    obtain ⟨g, o, rfl, x0, x1⟩ := hcs _ z (by simpa using hx)
    obtain ⟨k, hk⟩ : ∃ k, k = (lo Row.k key rows).length := ⟨_, rfl⟩
    rw [← hk] at HA hll x0 x1
    obtain ⟨n, hn⟩ : ∃ n, n = rows.length := ⟨_, rfl⟩
    rw [← hn] at c0 hll hlen
    simp at hll
    have b1 : (k : Int) < (n : Int) := by omega
    have b2 : (0 : Int) ≤ (k : Int) := by omega
    have b3 : (n : Int) ≤ 1000000 := by omega
    cases e1 : (z.k.toList == key.toList) with
    | true =>
      have HG : Hid (getV key rows = z.v ∧ getB key rows = true) := by simp only [e1] at hsk; unfold getV getB; rw [hsk]; exact ⟨rfl, rfl⟩
      clear h hcs hx hsk hz hk hn hll
      go_enter Try.func22, Try.ntmps22
      go_wp2_with fail
      refine HA.out.mono ?_
      rintro e w' ⟨rfl, rfl⟩
      go_wp2
      go_ret2
      exact ⟨by rw [HG.out.1, HG.out.2]; rfl, 0, rfl⟩
    | false =>
      have HG : Hid (getV key rows = ⟨#[]⟩ ∧ getB key rows = false) := by simp only [e1] at hsk; unfold getV getB; rw [hsk]; exact ⟨rfl, rfl⟩
      clear h hcs hx hsk hz hk hn hll
      go_enter Try.func22, Try.ntmps22
      go_wp2_with fail
      refine HA.out.mono ?_
      rintro e w' ⟨rfl, rfl⟩
      go_wp2
      go_ret2
      exact ⟨by rw [HG.out.1, HG.out.2]; rfl, 0, rfl⟩

end Tb
end Go.Proofs.Ytoglklldclgcbaa
