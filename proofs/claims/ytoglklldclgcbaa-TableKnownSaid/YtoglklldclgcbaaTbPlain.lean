/-
  Plain: what a range over a table tells; the key right behind a key.
-/
import Derived.Test.YtoglklldclgcbaaTbList
namespace Go.Proofs.Ytoglklldclgcbaa
open Go.RowKit Sk
namespace Tb

theorem bl_snoc : ∀ a : List UInt8, Op.bytesLess a (a ++ [0]) = true
  | [] => rfl
  | x :: a => by simp [Op.bytesLess, bl_snoc a]
theorem bl_gap : ∀ a b : List UInt8, Op.bytesLess a b = true → Op.bytesLess b (a ++ [0]) = false
  | _, [], h => by simp [Op.bytesLess] at h
  | [], y :: b, _ => by simp [Op.bytesLess]
  | x :: a, y :: b, h => by
    simp only [Op.bytesLess, Bool.or_eq_true, decide_eq_true_eq, Bool.and_eq_true, beq_iff_eq] at h
    simp only [List.cons_append, Op.bytesLess, Bool.or_eq_false_iff, decide_eq_false_iff_not, Bool.and_eq_false_iff, beq_eq_false_iff_ne]
    rcases h with h | ⟨rfl, h⟩
    · exact ⟨fun h' => absurd (UInt8.lt_trans h h') (UInt8.lt_irrefl _), .inl fun e => by subst e; exact UInt8.lt_irrefl _ h⟩
    · exact ⟨UInt8.lt_irrefl _, .inr (bl_gap a b h)⟩
def next (a : ByteArray) : ByteArray := a ++ ⟨#[0]⟩
theorem next_toList (a : ByteArray) : (next a).toList = a.toList ++ [0] := by
  unfold next
  rw [ByteArray.toList_eq, ByteArray.toList_eq]
  simp [ByteArray.data_append]
theorem kl_next (a : ByteArray) : kl a (next a) = true := by
  unfold kl; rw [next_toList]; exact bl_snoc _
theorem kl_gap {a b : ByteArray} (h : kl a b = true) : kl b (next a) = false := by
  unfold kl at h ⊢; rw [next_toList]; exact bl_gap _ _ h
theorem nil_list : (⟨#[]⟩ : ByteArray).toList = [] := by rw [ByteArray.toList_eq]
theorem kl_nil (a : ByteArray) : kl a ⟨#[]⟩ = false := by
  unfold kl
  rw [nil_list]
  cases a.toList <;> rfl


/-- is a key below the upper end? (none: the empty text) -/
def belowT (tt : ByteArray) (x : Row) : Bool := tt.toList.isEmpty || kl x.k tt
/-- what All tells -/
def btw (frm tt : ByteArray) (rows : List Row) : List Row := (hi Row.k frm rows).takeWhile (belowT tt)
theorem hi_next {rows : List Row} (hs : Srt Row.k rows) {a : ByteArray} {x : Row} {r : List Row} (h : hi Row.k a rows = x :: r) : hi Row.k (next x.k) rows = r := by
  have e : rows = (lo Row.k a rows ++ [x]) ++ r := by
    have := lo_hi Row.k a rows
    rw [h] at this
    rw [List.append_assoc]
    exact this.symm
  have hs2 := hs
  unfold Srt at hs2
  rw [e] at hs2
  obtain ⟨h1, h2, h3⟩ := List.pairwise_append.1 hs2
  obtain ⟨h4, _, h5⟩ := List.pairwise_append.1 h1
  have hx : kl x.k (next x.k) = true := kl_next _
  have r1 := lo_eq Row.k (key := next x.k) (pre := lo Row.k a rows ++ [x]) (post := r) (fun y hy => by
    rcases List.mem_append.1 hy with hy | hy
    · exact kl_trans (h5 y hy x (List.mem_singleton.2 rfl)) hx
    · rw [List.mem_singleton.1 hy]; exact hx) (fun z hz => kl_gap (h3 x (List.mem_append_right _ (List.mem_singleton.2 rfl)) z hz))
  rw [← e] at r1
  exact r1.2
theorem seek_hi {rows : List Row} (hs : Srt Row.k rows) {a : ByteArray} {x : Row} {r : List Row} (h : hi Row.k a rows = x :: r) : seek Row.k x.k rows = some x := by
  have e := lo_hi Row.k a rows
  rw [h] at e
  have hs2 := hs
  unfold Srt at hs2
  rw [← e] at hs2
  obtain ⟨_, h2, h3⟩ := List.pairwise_append.1 hs2
  have r1 := lo_eq Row.k (key := x.k) (pre := lo Row.k a rows) (post := x :: r) (fun y hy => h3 y hy x (List.mem_cons_self)) (fun z hz => by
    rcases List.mem_cons.1 hz with rfl | hz
    · exact kl_irrefl _
    · exact kl_asymm ((List.pairwise_cons.1 h2).1 z hz))
  rw [e] at r1
  unfold seek
  rw [r1.2]
  show (if (x.k.toList == x.k.toList) = true then some x else none) = _
  simp

end Tb
end Go.Proofs.Ytoglklldclgcbaa
