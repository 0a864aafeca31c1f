/-
  Walk: the reference's one change. (In work.)
-/
import Derived.Test.YtoglklldclgcbaaTbRefBtw
namespace Go.Proofs.Ytoglklldclgcbaa
open Go.RowKit Sk
namespace Tb

/-- where the rest begins -/
def restN (key : ByteArray) (rows : List Row) : Nat := match hi Row.k key rows with
  | z :: _ => if (z.k.toList == key.toList) = true then (lo Row.k key rows).length + 1 else (lo Row.k key rows).length
  | [] => (lo Row.k key rows).length
theorem restN_drop (key : ByteArray) (rows : List Row) : rows.drop (restN key rows) = restT key rows := by
  have e := lo_hi Row.k key rows
  unfold restN restT
  cases h : hi Row.k key rows with
  | nil =>
    rw [h] at e
    show rows.drop (lo Row.k key rows).length = []
    have : rows.length = (lo Row.k key rows).length := by rw [← congrArg List.length e]; simp
    rw [← this, List.drop_length]
  | cons z r =>
    rw [h] at e
    show rows.drop (if (z.k.toList == key.toList) = true then (lo Row.k key rows).length + 1 else (lo Row.k key rows).length) = if (z.k.toList == key.toList) = true then r else z :: r
    generalize lo Row.k key rows = a at *
    subst e
    split
    · rw [List.drop_append, List.drop_of_length_le (by omega), Nat.add_sub_cancel_left]; rfl
    · rw [List.drop_left]
theorem restN_le (key : ByteArray) (rows : List Row) : (lo Row.k key rows).length ≤ restN key rows ∧ restN key rows ≤ rows.length := by
  have hll := lohi_len key rows
  unfold restN
  cases h : hi Row.k key rows with
  | nil => rw [h] at hll; exact ⟨Nat.le_refl _, by simp at hll ⊢; omega⟩
  | cons z r =>
    rw [h] at hll
    simp at hll
    show _ ≤ (if (z.k.toList == key.toList) = true then (lo Row.k key rows).length + 1 else (lo Row.k key rows).length) ∧ (if (z.k.toList == key.toList) = true then (lo Row.k key rows).length + 1 else (lo Row.k key rows).length) ≤ _
    split <;> omega
theorem lo_take (key : ByteArray) (rows : List Row) : rows.take (lo Row.k key rows).length = lo Row.k key rows := by
  have e := lo_hi Row.k key rows
  generalize lo Row.k key rows = a at *
  rw [← e, List.take_left]

/-- what stands behind the slices that 'one' takes: the rows' cells -/
theorem src_cells {B : Nat} {w : World} {g n c : Nat} {l : List Row} (h : w.ownsRow B 39 2 (.slice (some ⟨g, 0, none⟩) n c) l.length (flat rcR l)) (hn : n = l.length) (k : Nat) :
    (∀ (j : Nat) (u : Value), (flat rcR (l.take k))[j]? = some u → w.cell? ((⟨g, 0, none⟩ : Addr).add j) = some u) ∧
    (∀ (j : Nat) (u : Value), (flat rcR (l.drop k))[j]? = some u → w.cell? ((⟨g, k * 2, none⟩ : Addr).add j) = some u) := by
  subst hn
  have hc := h.cells (g := g) rfl
  refine ⟨fun j u hu => ?_, fun j u hu => ?_⟩
  · rw [← flat_take rcR_len, List.getElem?_take] at hu
    split at hu
    · exact hc j u hu
    · cases hu
  · rw [← flat_drop rcR_len, List.getElem?_drop] at hu
    have := hc (k * 2 + j) u hu
    rw [addr_add, Nat.zero_add] at this
    rw [addr_add]
    exact this

end Tb
end Go.Proofs.Ytoglklldclgcbaa
