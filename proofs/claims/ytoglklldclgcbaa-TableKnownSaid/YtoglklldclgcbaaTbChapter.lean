/-
  Plain: the chapter's table, and what it answers.
-/
import Derived.Test.YtoglklldclgcbaaTbAt
namespace Go.Proofs.Ytoglklldclgcbaa
open Go.RowKit Sk
namespace Tb

theorem tl_lit (a : Array UInt8) : (⟨a⟩ : ByteArray).toList = a.toList := by rw [ByteArray.toList_eq]
theorem kl_lit (a b : Array UInt8) : kl ⟨a⟩ ⟨b⟩ = Op.bytesLess a.toList b.toList := by unfold kl; rw [tl_lit, tl_lit]
abbrev T1 (x : UInt8) : ByteArray := ⟨#[x]⟩
def chOps : List Chg := [⟨T1 100, T1 52, false⟩, ⟨T1 97, T1 49, false⟩, ⟨T1 98, T1 50, false⟩]
def chRows : List Row := [⟨T1 97, T1 49⟩, ⟨T1 98, T1 50⟩, ⟨T1 100, T1 52⟩]
theorem ch_chk : chkO chOps = 0 := by simp [chkO, chOps, badC, tl_lit]
theorem ch_app : appT chOps [] = chRows := by
  unfold appT
  rw [if_pos ch_chk]
  simp [runT, chOps, oneT, putT, restT, lo, hi, kl_lit, tl_lit, Op.bytesLess, chRows]
def ch2Ops : List Chg := [⟨T1 97, ⟨#[]⟩, true⟩, ⟨T1 99, T1 51, false⟩, ⟨T1 99, T1 53, false⟩]
def ch2Rows : List Row := [⟨T1 98, T1 50⟩, ⟨T1 99, T1 53⟩, ⟨T1 100, T1 52⟩]
theorem ch2_chk : chkO ch2Ops = 0 := by simp [chkO, ch2Ops, badC, tl_lit]
theorem ch2_app : appT ch2Ops chRows = ch2Rows := by
  unfold appT
  rw [if_pos ch2_chk]
  simp [runT, ch2Ops, oneT, putT, dropT, restT, lo, hi, kl_lit, tl_lit, Op.bytesLess, chRows, ch2Rows]
def ch3Ops : List Chg := [⟨T1 101, T1 49, false⟩, ⟨⟨#[]⟩, ⟨#[]⟩, false⟩]
theorem ch3_chk : chkO ch3Ops = 2 := by simp [chkO, ch3Ops, badC, tl_lit]
theorem ch3_app (r : List Row) : appT ch3Ops r = r := by unfold appT; rw [if_neg (by rw [ch3_chk]; simp)]

theorem ch_getb : getV (T1 98) chRows = T1 50 ∧ getB (T1 98) chRows = true := by simp [getV, getB, seek, hi, chRows, kl_lit, tl_lit, Op.bytesLess]
theorem ch_getc : getV (T1 99) chRows = ⟨#[]⟩ ∧ getB (T1 99) chRows = false := by simp [getV, getB, seek, hi, chRows, kl_lit, tl_lit, Op.bytesLess]
theorem cat_lit (l : List Row) (a : Array UInt8) (h : (l.foldl (fun x y => x ++ y.k.data) #[]) = a) : catK l = ⟨a⟩ := by
  unfold catK
  rw [← h]
  have : ∀ (l : List Row) (x : Array UInt8), l.foldl (fun a x => a ++ x.k) ⟨x⟩ = (⟨l.foldl (fun x y => x ++ y.k.data) x⟩ : ByteArray) := by
    intro l
    induction l with
    | nil => intro x; rfl
    | cons y l ih =>
      intro x
      rw [List.foldl_cons, List.foldl_cons, ← ih]
      congr 1
      have e : ({ data := x } ++ y.k : ByteArray).data = x ++ y.k.data := ByteArray.data_append
      generalize ({ data := x } ++ y.k : ByteArray) = b at *
      cases b
      exact congrArg ByteArray.mk e
  exact this l #[]
theorem ch_all : catK (flt ⟨#[]⟩ ⟨#[]⟩ chRows) = ⟨#[97, 98, 100]⟩ := cat_lit _ _ (by simp [flt, chRows, belowT, kl_lit, tl_lit, Op.bytesLess])
theorem ch_bd : catK (flt (T1 98) (T1 100) chRows) = ⟨#[98]⟩ := cat_lit _ _ (by simp [flt, chRows, belowT, kl_lit, tl_lit, Op.bytesLess])
theorem ch_bb : catK (flt ⟨#[98, 98]⟩ ⟨#[]⟩ chRows) = ⟨#[100]⟩ := cat_lit _ _ (by simp [flt, chRows, belowT, kl_lit, tl_lit, Op.bytesLess])
theorem ch_db : catK (flt (T1 100) (T1 98) chRows) = ⟨#[]⟩ := cat_lit _ _ (by simp [flt, chRows, belowT, kl_lit, tl_lit, Op.bytesLess])
theorem ch_back : catK (flt ⟨#[]⟩ ⟨#[]⟩ chRows).reverse = ⟨#[100, 98, 97]⟩ := cat_lit _ _ (by simp [flt, chRows, belowT, kl_lit, tl_lit, Op.bytesLess])
theorem ch_bad : catK (flt (T1 97) (T1 100) chRows).reverse = ⟨#[98, 97]⟩ := cat_lit _ _ (by simp [flt, chRows, belowT, kl_lit, tl_lit, Op.bytesLess])
theorem ch_small : ∀ x ∈ chRows, x.k.size ≤ 1 := by
  intro x hx
  simp only [chRows, List.mem_cons, List.not_mem_nil, or_false] at hx
  rcases hx with rfl | rfl | rfl <;> exact Nat.le_refl 1
theorem ch_ne : ∀ x ∈ chRows, x.k ≠ ⟨#[]⟩ := by simp [chRows]

theorem keys_all {P : Nat → Prop} {t : Nat} {rows : List Row} {w : World} (h : At P w t rows) (frm tt : ByteArray) (hs : ∀ x ∈ rows, x.k.size ≤ 1) (hl : rows.length ≤ 1000) (out : ByteArray) (ho : catK (flt frm tt rows) = out) :
    Calls Try.prog 32 #[TP t, .string frm, .string tt, .bool false] w fun e w' => e = .returned (.string out) ∧ At P w' t rows ∧ Below w.heap.size w w' := by
  rw [← ho]
  refine (keys_any t frm tt false (flt frm tt rows) w (ranged_all P t frm tt rows w h.tab (fun x hx => by have := hs x hx; unfold reachBytes; omega) (by omega)) (Nat.le_trans (List.length_filter_le _ _) hl) (fun x hx => hs x ((List.mem_filter.1 hx).1))).mono fun e w' ⟨he, hb⟩ => ⟨he, h.below hb, hb⟩
theorem keys_back {P : Nat → Prop} {t : Nat} {rows : List Row} {w : World} (h : At P w t rows) (frm tt : ByteArray) (hs : ∀ x ∈ rows, x.k.size ≤ 1) (hn : ∀ x ∈ rows, x.k ≠ ⟨#[]⟩) (hl : rows.length ≤ 1000) (out : ByteArray) (ho : catK (flt frm tt rows).reverse = out) :
    Calls Try.prog 32 #[TP t, .string frm, .string tt, .bool true] w fun e w' => e = .returned (.string out) ∧ At P w' t rows ∧ Below w.heap.size w w' := by
  rw [← ho]
  refine (keys_any t frm tt true (flt frm tt rows).reverse w (ranged_back P t frm tt rows w h.tab hn (by omega)) (by rw [List.length_reverse]; exact Nat.le_trans (List.length_filter_le _ _) hl) (fun x hx => hs x ((List.mem_filter.1 (List.mem_reverse.1 hx)).1))).mono fun e w' ⟨he, hb⟩ => ⟨he, h.below hb, hb⟩

end Tb
end Go.Proofs.Ytoglklldclgcbaa
