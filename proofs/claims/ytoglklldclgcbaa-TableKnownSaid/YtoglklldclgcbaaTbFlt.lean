/-
  Plain: what All and Back tell is what stands between, in order and the other way round.
-/
import Derived.Test.YtoglklldclgcbaaTbBack
namespace Go.Proofs.Ytoglklldclgcbaa
open Go.RowKit Sk
namespace Tb

theorem take_flt {α : Type} {q : α → Bool} : ∀ {m : List α}, m.Pairwise (fun x y => q y = true → q x = true) → m.takeWhile q = m.filter q
  | [], _ => rfl
  | x :: m, h => by
    obtain ⟨h1, h2⟩ := List.pairwise_cons.1 h
    cases hx : q x with
    | true => rw [List.takeWhile_cons, List.filter_cons, hx, if_pos rfl, if_pos rfl, take_flt h2]
    | false =>
      rw [List.takeWhile_cons, List.filter_cons, hx]
      simp only [Bool.false_eq_true, if_false]
      symm
      rw [List.filter_eq_nil_iff]
      intro y hy hq
      rw [h1 y hy hq] at hx
      cases hx
theorem drop_flt {α : Type} {p : α → Bool} : ∀ {m : List α}, m.Pairwise (fun x y => p x = true → p y = true) → m.dropWhile (fun x => !p x) = m.filter p
  | [], _ => rfl
  | x :: m, h => by
    obtain ⟨h1, h2⟩ := List.pairwise_cons.1 h
    cases hx : p x with
    | true =>
      rw [List.dropWhile_cons, List.filter_cons, hx]
      simp only [Bool.not_true, Bool.false_eq_true, if_false, if_true]
      congr 1
      symm
      rw [List.filter_eq_self]
      intro y hy
      exact h1 y hy hx
    | false =>
      rw [List.dropWhile_cons, List.filter_cons, hx]
      simp only [Bool.not_false, Bool.false_eq_true, if_false, if_true]
      exact drop_flt h2
theorem rev_flt {α : Type} {p : α → Bool} {m : List α} (h : m.Pairwise (fun x y => p x = true → p y = true)) : m.reverse.takeWhile p = (m.filter p).reverse := by
  rw [← List.filter_reverse]
  refine take_flt ?_
  rw [List.pairwise_reverse]
  exact h

/-- what stands between -/
def flt (frm tt : ByteArray) (rows : List Row) : List Row := rows.filter (fun x => !kl x.k frm && belowT tt x)
theorem up_closed {rows : List Row} (hs : Srt Row.k rows) (frm : ByteArray) : rows.Pairwise (fun x y => (!kl x.k frm) = true → (!kl y.k frm) = true) :=
  List.Pairwise.imp (fun {x y} h hx => by
    simp only [Bool.not_eq_true'] at hx ⊢
    cases e : kl y.k frm with
    | false => rfl
    | true => rw [kl_trans h e] at hx; cases hx) hs
theorem down_closed {rows : List Row} (hs : Srt Row.k rows) (tt : ByteArray) : rows.Pairwise (fun x y => belowT tt y = true → belowT tt x = true) :=
  List.Pairwise.imp (fun {x y} h hy => by
    unfold belowT at hy ⊢
    cases e : tt.toList.isEmpty with
    | true => rfl
    | false =>
      rw [e] at hy
      simp only [Bool.false_or] at hy ⊢
      exact kl_trans h hy) hs
theorem hi_flt {rows : List Row} (hs : Srt Row.k rows) (frm : ByteArray) : hi Row.k frm rows = rows.filter (fun x => !kl x.k frm) := by
  have := drop_flt (up_closed hs frm)
  unfold hi
  simpa using this
theorem btw_flt {rows : List Row} (hs : Srt Row.k rows) (frm tt : ByteArray) : btw frm tt rows = flt frm tt rows := by
  unfold btw flt
  rw [hi_flt hs, take_flt (down_closed (hs.filter _) tt), List.filter_filter]
  congr 1
  funext x
  exact Bool.and_comm _ _
theorem lastL_flt {rows : List Row} (hs : Srt Row.k rows) (tt : ByteArray) : lastL tt rows = rows.filter (belowT tt) := by
  unfold lastL
  cases e : tt.toList.isEmpty with
  | true =>
    rw [if_pos rfl]
    symm
    rw [List.filter_eq_self]
    intro x _
    unfold belowT
    rw [e]
    rfl
  | false =>
    rw [if_neg (by simp)]
    have h1 : lo Row.k tt rows = rows.takeWhile (belowT tt) := by
      unfold lo
      congr 1
      funext x
      unfold belowT
      rw [e]
      rfl
    rw [h1, take_flt (down_closed hs tt)]
theorem bck_start {rows : List Row} (hs : Srt Row.k rows) (frm tt : ByteArray) : (flt frm tt rows).reverse = (lastL tt rows).reverse.takeWhile (fun x => !kl x.k frm) := by
  rw [lastL_flt hs, rev_flt (up_closed (hs.filter _) frm), List.filter_filter]
  rfl
theorem lastL_pre (key : ByteArray) (rows : List Row) : ∃ post, rows = lastL key rows ++ post := by
  unfold lastL
  split
  · exact ⟨[], by simp⟩
  · exact ⟨_, (lo_hi Row.k key rows).symm⟩
theorem lastL_step {rows : List Row} (hs : Srt Row.k rows) {a : ByteArray} {z : Row} (h : (lastL a rows).getLast? = some z) (hne : z.k ≠ ⟨#[]⟩) : lastL a rows = lastL z.k rows ++ [z] := by
  obtain ⟨i, hi'⟩ := List.getLast?_eq_some_iff.1 h
  obtain ⟨post, hp⟩ := lastL_pre a rows
  rw [hi'] at hp
  have hs2 := hs
  unfold Srt at hs2
  rw [hp] at hs2
  obtain ⟨h1, h2, h3⟩ := List.pairwise_append.1 hs2
  obtain ⟨h4, _, h5⟩ := List.pairwise_append.1 h1
  have r1 := lo_eq Row.k (key := z.k) (pre := i) (post := [z] ++ post) (fun y hy => h5 y hy z (List.mem_singleton.2 rfl)) (fun y hy => by
    rcases List.mem_append.1 hy with hy | hy
    · rw [List.mem_singleton.1 hy]; exact kl_irrefl _
    · exact kl_asymm (h3 z (List.mem_append_right _ (List.mem_singleton.2 rfl)) y hy))
  rw [← List.append_assoc, ← hp] at r1
  have e : z.k.toList.isEmpty = false := by
    cases e : z.k.toList with
    | nil => exact absurd (toList_inj (by rw [e, ByteArray.toList_eq])) hne
    | cons x r => rfl
  have : lastL z.k rows = i := by
    unfold lastL
    rw [if_neg (by rw [e]; simp)]
    exact r1.1
  rw [this, hi']

end Tb
end Go.Proofs.Ytoglklldclgcbaa
