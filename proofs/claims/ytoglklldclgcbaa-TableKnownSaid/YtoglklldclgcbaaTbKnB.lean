/-
  A function's walk in parts: its code's tail put aside; the frame's slots written out.
-/
import Derived.Test.YtoglklldclgcbaaTbKnA
namespace Go.Proofs.Ytoglklldclgcbaa
open Go.RowKit Go.Shelf Sk
namespace Tb

/-- a code whose tail behind n statements is another's -/
def kput : Nat → Code → Code → Code
  | n + 1, .seq x y, c => .seq x (kput n y c)
  | _, _, c => c
def ktail : Nat → Code → Code
  | n + 1, .seq _ y => ktail n y
  | _, d => d
noncomputable def kb : Code := (Try.f11).body.getD .skip

theorem lay_list (A : Array Value) (n : Nat) (h : A.size = n) : ∃ u : Nat → Value, A = ((List.range n).map u).toArray ∧ ∀ i v, A[i]? = some v → u i = v := by
  refine ⟨fun i => A.getD i undef, ?_, fun i v hv => ?_⟩
  · apply Array.ext'
    apply List.ext_getElem?
    intro i
    simp only [List.getElem?_map]
    by_cases hi : i < n
    · rw [List.getElem?_range hi]
      simp [Array.getD, show i < A.size by omega]
    · rw [List.getElem?_eq_none (by simp; omega), List.getElem?_eq_none (by simp; omega)]
      rfl
  · obtain ⟨hi, rfl⟩ := Array.getElem?_eq_some_iff.1 hv
    simp [Array.getD, hi]
theorem lay225 (A : Array Value) (h : A.size = 225) : ∃ u : Nat → Value, A = #[u 0, u 1, u 2, u 3, u 4, u 5, u 6, u 7, u 8, u 9, u 10, u 11, u 12, u 13, u 14, u 15, u 16, u 17, u 18, u 19, u 20, u 21, u 22, u 23, u 24, u 25, u 26, u 27, u 28, u 29, u 30, u 31, u 32, u 33, u 34, u 35, u 36, u 37, u 38, u 39, u 40, u 41, u 42, u 43, u 44, u 45, u 46, u 47, u 48, u 49, u 50, u 51, u 52, u 53, u 54, u 55, u 56, u 57, u 58, u 59, u 60, u 61, u 62, u 63, u 64, u 65, u 66, u 67, u 68, u 69, u 70, u 71, u 72, u 73, u 74, u 75, u 76, u 77, u 78, u 79, u 80, u 81, u 82, u 83, u 84, u 85, u 86, u 87, u 88, u 89, u 90, u 91, u 92, u 93, u 94, u 95, u 96, u 97, u 98, u 99, u 100, u 101, u 102, u 103, u 104, u 105, u 106, u 107, u 108, u 109, u 110, u 111, u 112, u 113, u 114, u 115, u 116, u 117, u 118, u 119, u 120, u 121, u 122, u 123, u 124, u 125, u 126, u 127, u 128, u 129, u 130, u 131, u 132, u 133, u 134, u 135, u 136, u 137, u 138, u 139, u 140, u 141, u 142, u 143, u 144, u 145, u 146, u 147, u 148, u 149, u 150, u 151, u 152, u 153, u 154, u 155, u 156, u 157, u 158, u 159, u 160, u 161, u 162, u 163, u 164, u 165, u 166, u 167, u 168, u 169, u 170, u 171, u 172, u 173, u 174, u 175, u 176, u 177, u 178, u 179, u 180, u 181, u 182, u 183, u 184, u 185, u 186, u 187, u 188, u 189, u 190, u 191, u 192, u 193, u 194, u 195, u 196, u 197, u 198, u 199, u 200, u 201, u 202, u 203, u 204, u 205, u 206, u 207, u 208, u 209, u 210, u 211, u 212, u 213, u 214, u 215, u 216, u 217, u 218, u 219, u 220, u 221, u 222, u 223, u 224] ∧ ∀ i v, A[i]? = some v → u i = v := by
  obtain ⟨u, hu, hv⟩ := lay_list A 225 h
  exact ⟨u, hu, hv⟩

end Tb
end Go.Proofs.Ytoglklldclgcbaa
