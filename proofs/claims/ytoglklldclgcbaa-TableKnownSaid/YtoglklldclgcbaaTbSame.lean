/-
  Walk: the reference's Same, of two equal lists of rows.
-/
import Derived.Test.YtoglklldclgcbaaTbRows
namespace Go.Proofs.Ytoglklldclgcbaa
open Go.RowKit Sk
namespace Tb

/-- rows in a slice -/
def Rws (w : World) (v : Value) (l : List Row) : Prop := ∃ A c, v = .slice A l.length c ∧ ∀ (k : Nat) (x : Row), l[k]? = some x → ∃ g o, A = some ⟨g, o, none⟩ ∧ w.cell? ⟨g, o + k * 2, none⟩ = some (.string x.k) ∧ w.cell? ⟨g, o + k * 2 + 1, none⟩ = some (.string x.v)
theorem Rws.of_owns {w : World} {B : Nat} {v : Value} {l : List Row} (h : w.ownsRow B 39 2 v l.length (flat rcR l)) : Rws w v l := by
  rcases owns_form h with ⟨hv, h0, _⟩ | ⟨g, cap, hv, _, _⟩
  · exact ⟨none, 0, by rw [hv, h0], fun k x hx => by have := (List.getElem?_eq_some_iff.1 hx).1; omega⟩
  · subst hv
    refine ⟨_, cap, rfl, fun k x hx => ⟨g, 0, rfl, ?_⟩⟩
    have hc := h.cells (g := g) rfl
    have key : ∀ j u, j < 2 → (rcR x)[j]? = some u → w.cell? ⟨g, 0 + (k * 2 + j), none⟩ = some u := fun j u hj hu => by
      have := hc (k * 2 + j) u (by rw [flat_get rcR_len hx hj]; exact hu)
      rw [addr_add] at this
      exact this
    exact ⟨key 0 _ (by omega) rfl, by have := key 1 _ (by omega) rfl; rw [Nat.add_assoc]; exact this⟩
def SameR (w : World) (n cnt : Nat) (s : Value) (w1 : World) : Prop := ∃ k q, k + cnt = n ∧ s = .int .i64 (k : Nat) ∧ w1 = w.drewN q

set_option maxHeartbeats 1000000 in
theorem Same_rows (a b : Value) (l : List Row) (w : World) (ha : Rws w a l) (hb : Rws w b l) (hlen : l.length ≤ 1000000000) :
    Calls Try.prog 19 #[a, b] w fun e w' => e = .returned (.bool true) ∧ ∃ q, w' = w.drewN q := by
  obtain ⟨A, ca, rfl, hca⟩ := ha
  obtain ⟨C, cc, rfl, hcb⟩ := hb
  have HA := Lib.hid (And.intro hca hcb)
  obtain ⟨n, hn⟩ : ∃ n, n = l.length := ⟨_, rfl⟩
  have HN := Lib.hid hn
  rw [← hn] at hlen ⊢
  have t1 : ((n : Int) != (n : Int)) = false := by simp
  clear hca hcb hn
  go_enter Try.func19, Try.ntmps19
  go_wp2
  go_loopg [5] n (fun cnt s w1 => SameR w n cnt s w1)
  case atStart => exact ⟨0, 0, by omega, rfl, rfl⟩
  case round =>
    obtain ⟨k, q, hk, rfl, rfl⟩ := hrel
    have HK := Lib.hid hk
    by_cases hlt : k < n
    · obtain ⟨x, hx⟩ : ∃ x, l[k]? = some x := ⟨_, List.getElem?_eq_getElem (show k < l.length by rw [← HN.out]; exact hlt)⟩
      obtain ⟨g, o, rfl, x0, x1⟩ := HA.out.1 k x hx
      obtain ⟨g2, o2, rfl, z0, z1⟩ := HA.out.2 k x hx
      have b1 : (k : Int) < (n : Int) := by omega
      have b2 : (0 : Int) ≤ (k : Int) := by omega
      have b3 : (n : Int) ≤ 1000000000 := by omega
      obtain ⟨w1, hw1⟩ : ∃ w1, w.drewN q = w1 := ⟨_, rfl⟩
      have y0 : w1.cell? ⟨g, o + k * 2, none⟩ = some (.string x.k) := by rw [← hw1]; exact x0
      have y1 : w1.cell? ⟨g, o + k * 2 + 1, none⟩ = some (.string x.v) := by rw [← hw1]; exact x1
      have v0 : w1.cell? ⟨g2, o2 + k * 2, none⟩ = some (.string x.k) := by rw [← hw1]; exact z0
      have v1 : w1.cell? ⟨g2, o2 + k * 2 + 1, none⟩ = some (.string x.v) := by rw [← hw1]; exact z1
      have HNX : Hid (∀ q', SameR w n (n - (k + 1)) (.int .i64 ((k : Int) + 1)) (w1.drewN q')) := fun q' => ⟨k + 1, q + q', by omega, by simp, by rw [← hw1]; simp [World.drewN, Nat.add_assoc]⟩
      rw [hw1]
      clear hk hx x0 x1 z0 z1 hw1
      go_wp2
      go_quiet (fail)
      go_wp2
      go_roundg (n - (k + 1))
      case measure => have := HK.out; omega
      case rel => exact HNX.out _
    · have ek : decide ((k : Int) < (n : Int)) = false := by simp; omega
      have ek2 : decide (k < n) = false := by simp; omega
      clear hk
      go_wp2
      go_ret
      exact ⟨rfl, q, rfl⟩

end Tb
end Go.Proofs.Ytoglklldclgcbaa
