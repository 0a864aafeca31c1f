/-
  Walk: the reference's route (scriptoriumref25): Span.
-/
import Derived.Test.YtpkiiimbichooaaRtRefNew
namespace Go.Proofs.Ytpkiiimbichooaa
open Go.RowKit Sk
namespace Rr
open Rt

theorem ed_split {l : List ByteArray} {i : Nat} (h : i < l.length) : l[i]? = some (ed (edges l) (i + 1)) := by
  have h1 := ed_get (E := edges l) (i := i + 1) (by rw [edges_length]; omega)
  unfold edges at h1
  rw [List.getElem?_cons_succ, List.getElem?_append_left h] at h1
  exact h1

section
variable {B p : Nat} {l : List ByteArray} {n : Int} {w : World}
set_option maxHeartbeats 400000 in
theorem Span_out (h : Are B w p l n) (h6 : l.length < 6) (i : Int) (hi : ¬ (0 ≤ i ∧ i < (l.length : Int) + 1)) :
    Calls Try.prog 24 #[RP p, .int .i64 i] w fun e w' => e = .returned (.tuple #[Sp em em, .int .i64 9]) ∧ Below w.heap.size w w' := by
  obtain ⟨m, hm⟩ : ∃ m, m = l.length + 1 := ⟨_, rfl⟩
  have H := Lib.hid (Shards_any (h.below ((Below.refl _ w).alloc (Nat.le_refl _) (.cells #[.string ⟨#[]⟩, .string ⟨#[]⟩] 34))) h6 m hm)
  by_cases h0 : i < 0
  · have hd : decide (i < 0) = true := by simpa using h0
    clear h h6 hm hi
    go_enter Try.func24, Try.ntmps24
    go_wp2
    exact bodyPost_ret (v := .tuple #[Sp em em, .int .i64 9]) (by simp [results, Try.results24, go_sem]; rfl) rfl ⟨rfl, (Below.refl _ _).alloc (Nat.le_refl _) _⟩
  · have hd : decide (i < 0) = false := by simpa using h0
    have hd2 : decide ((m : Int) ≤ i) = true := by simp; omega
    clear h h6 hm hi
    go_enter Try.func24, Try.ntmps24
    go_wp2_with fail
    refine H.out.mono ?_
    rintro e w' ⟨rfl, rfl⟩
    go_wp2
    exact bodyPost_ret (v := .tuple #[Sp em em, .int .i64 9]) (by simp [results, Try.results24, go_sem]; rfl) rfl ⟨rfl, (Below.refl _ _).alloc (Nat.le_refl _) _⟩

/-- what is said of a world behind 'top' -/
structure Mid (w w1 : World) (p : Nat) (A : Option Addr) (len c : Nat) (l : List ByteArray) : Prop where
  bel : Below w.heap.size w w1
  blk : Blk w1 w.heap.size 34 #[.string ⟨#[]⟩, .string ⟨#[]⟩]
  hdr : w1.cell? ⟨p, 0, none⟩ = some (.slice A len c)
  cel : ∀ (k : Nat) (x : ByteArray), l[k]? = some x → ∃ g, A = some ⟨g, 0, none⟩ ∧ w1.cell? ⟨g, k, none⟩ = some (.string x)

set_option maxHeartbeats 2000000 in
theorem Span_in (h : Are B w p l n) (h6 : l.length < 6) (i : Nat) (hi : i < l.length + 1) :
    Calls Try.prog 24 #[RP p, .int .i64 i] w fun e w' => e = .returned (.tuple #[Sp (ed (edges l) i) (ed (edges l) (i + 1)), .int .i64 0]) ∧ Below w.heap.size w w' := by
  obtain ⟨m, hm⟩ : ∃ m, m = l.length + 1 := ⟨_, rfl⟩
  have H := Lib.hid (Shards_any (h.below ((Below.refl _ w).alloc (Nat.le_refl _) (.cells #[.string ⟨#[]⟩, .string ⟨#[]⟩] 34))) h6 m hm)
  have hd2 : decide ((m : Int) ≤ (i : Int)) = false := by simp; omega
  have hd3 : decide (m ≤ i) = false := by simp; omega
  obtain ⟨u, h⟩ := h
  obtain ⟨A, c, rfl, hcs⟩ := h.form
  have hpl := h.hdr.lt
  have c0 : w.cell? ⟨p, 0, none⟩ = some (.slice A l.length c) := h.hdr.cell 0
  have HM : Hid (∀ w1, Below (w.alloc (.cells #[.string ⟨#[]⟩, .string ⟨#[]⟩] 34)).heap.size (w.alloc (.cells #[.string ⟨#[]⟩, .string ⟨#[]⟩] 34)) w1 → Mid w w1 p A l.length c l) := fun w1 hb => by
    have hb2 : Below w.heap.size w w1 := ((Below.refl _ w).alloc (Nat.le_refl _) _).trans (hb.mono (by simp))
    refine ⟨hb2, (hb.block _ (by simp)).trans (heap_alloc_new w _), (hb2.cell (p := ⟨p, 0, none⟩) hpl).trans c0, fun k x hx => ?_⟩
    obtain ⟨g, hA, hc⟩ := hcs k x hx
    exact ⟨g, hA, (hb2.cell (p := ⟨g, k, none⟩) (World.block_lt_of_cell? w _ hc)).trans hc⟩
  clear h hcs hm c0 hpl
  rcases i with _ | j
  · have HF := Lib.hid (ed_zero l)
    have hm0 : ¬ m = 0 := by simp at hd3; omega
    have hd4 : decide (m = 0) = false := by simpa using hm0
    by_cases h0 : 0 < l.length
    · have hget := ed_split h0
      rw [HF.out]
      generalize ed (edges l) (0 + 1) = y at *
      have hl1 : (0 : Int) < (l.length : Int) := by omega
      go_enter Try.func24, Try.ntmps24
      go_wp2_with fail
      refine H.out.mono ?_
      rintro e w' ⟨rfl, rfl⟩
      go_wp2_with fail
      refine (top_any _).mono ?_
      rintro e w1 ⟨rfl, hb⟩
      obtain ⟨m1, m2, m3, m4⟩ := HM.out w1 hb
      obtain ⟨g, rfl, c2⟩ := m4 0 _ hget
      have lg : g < w1.heap.size := World.block_lt_of_cell? w1 _ c2
      have a0 : w1.cell? ⟨w.heap.size, 0, none⟩ = some (.string ⟨#[]⟩) := m2.cell 0
      have a1 : w1.cell? ⟨w.heap.size, 1, none⟩ = some (.string ⟨#[]⟩) := m2.cell 1
      have b0 : w1.frozen? ⟨w.heap.size, 0, none⟩ = false := m2.free 0
      have b1 : w1.frozen? ⟨w.heap.size, 1, none⟩ = false := m2.free 1
      have lw1 : w.heap.size < w1.heap.size := m2.lt
      have lp : p < w1.heap.size := World.block_lt_of_cell? w1 _ m3
      have HB := Lib.hid m1
      clear hb m1 m2 m4 hget
      go_wp2
      exact bodyPost_ret (v := .tuple #[Sp em y, .int .i64 0]) (by simp [results, Try.results24, go_sem, a0, a1, lw1]; rfl) rfl ⟨rfl, ((HB.out.setCell (p := ⟨w.heap.size, 0, none⟩) (Nat.le_refl _) _).setCell (p := ⟨w.heap.size, 1, none⟩) (Nat.le_refl _) _).alloc (by simp [World.setCell]; omega) _⟩
    · have hl0 : l.length = 0 := by omega
      have HT := Lib.hid (ed_top l)
      rw [hl0] at HT
      rw [HF.out, HT.out]
      generalize l.length = len at *
      subst hl0
      go_enter Try.func24, Try.ntmps24
      go_wp2_with fail
      refine H.out.mono ?_
      rintro e w' ⟨rfl, rfl⟩
      go_wp2_with fail
      refine (top_any _).mono ?_
      rintro e w1 ⟨rfl, hb⟩
      obtain ⟨m1, m2, m3, m4⟩ := HM.out w1 hb
      have a0 : w1.cell? ⟨w.heap.size, 0, none⟩ = some (.string ⟨#[]⟩) := m2.cell 0
      have a1 : w1.cell? ⟨w.heap.size, 1, none⟩ = some (.string ⟨#[]⟩) := m2.cell 1
      have b0 : w1.frozen? ⟨w.heap.size, 0, none⟩ = false := m2.free 0
      have b1 : w1.frozen? ⟨w.heap.size, 1, none⟩ = false := m2.free 1
      have lw1 : w.heap.size < w1.heap.size := m2.lt
      have lp : p < w1.heap.size := World.block_lt_of_cell? w1 _ m3
      have HB := Lib.hid m1
      clear hb m1 m2 m4
      go_wp2
      exact bodyPost_ret (v := .tuple #[Sp em top, .int .i64 0]) (by simp [results, Try.results24, go_sem, a0, a1, lw1]; rfl) rfl ⟨rfl, ((HB.out.setCell (p := ⟨w.heap.size, 0, none⟩) (Nat.le_refl _) _).setCell (p := ⟨w.heap.size, 1, none⟩) (Nat.le_refl _) _).alloc (by simp [World.setCell]; omega) _⟩
  · have hget0 := ed_split (l := l) (i := j) (by omega)
    have hw1 : IntKind.i64.wrap ((j : Int) + 1 - 1) = (j : Int) := by rw [IntWalk.i64_in _ (by omega)]; omega
    have hj1 : (j : Int) < (l.length : Int) := by omega
    have hj2 : (0 : Int) ≤ (j : Int) := by omega
    have hj3 : (0 : Int) < (j : Int) + 1 := by omega
    have hs0 : j + 1 < m := by simp at hd3; omega
    have hs1 : decide ((j : Int) + 1 < 0) = false := by simp; omega
    have hs2 : decide ((m : Int) ≤ (j : Int) + 1) = false := by simp; omega
    by_cases h1 : j + 1 < l.length
    · have hget := ed_split h1
      generalize ed (edges l) (j + 1 + 1) = y at *
      generalize ed (edges l) (j + 1) = x at *
      have hj4 : (j : Int) + 1 < (l.length : Int) := by omega
      have hj5 : ((j : Int) + 1).toNat = j + 1 := by omega
      go_enter Try.func24, Try.ntmps24
      go_wp2_with fail
      refine H.out.mono ?_
      rintro e w' ⟨rfl, rfl⟩
      go_wp2_with fail
      refine (top_any _).mono ?_
      rintro e w1 ⟨rfl, hb⟩
      obtain ⟨m1, m2, m3, m4⟩ := HM.out w1 hb
      obtain ⟨g, rfl, c2⟩ := m4 (j + 1) _ hget
      have lg : g < w1.heap.size := World.block_lt_of_cell? w1 _ c2
      obtain ⟨g', hA, c3⟩ := m4 j _ hget0
      obtain rfl : g = g' := by simpa using hA
      have a0 : w1.cell? ⟨w.heap.size, 0, none⟩ = some (.string ⟨#[]⟩) := m2.cell 0
      have a1 : w1.cell? ⟨w.heap.size, 1, none⟩ = some (.string ⟨#[]⟩) := m2.cell 1
      have b0 : w1.frozen? ⟨w.heap.size, 0, none⟩ = false := m2.free 0
      have b1 : w1.frozen? ⟨w.heap.size, 1, none⟩ = false := m2.free 1
      have lw1 : w.heap.size < w1.heap.size := m2.lt
      have lp : p < w1.heap.size := World.block_lt_of_cell? w1 _ m3
      have HB := Lib.hid m1
      clear hb m1 m2 m4 hget hget0 hA
      go_wp2
      exact bodyPost_ret (v := .tuple #[Sp x y, .int .i64 0]) (by simp [results, Try.results24, go_sem, a0, a1, lw1]) rfl ⟨rfl, ((HB.out.setCell (p := ⟨w.heap.size, 0, none⟩) (Nat.le_refl _) _).setCell (p := ⟨w.heap.size, 1, none⟩) (Nat.le_refl _) _).alloc (by simp [World.setCell]; omega) _⟩
    · have hjl : l.length = j + 1 := by omega
      have HT := Lib.hid (ed_top l)
      rw [hjl] at HT
      rw [HT.out]
      generalize ed (edges l) (j + 1) = x at *
      have hj4 : decide ((j : Int) + 1 < (l.length : Int)) = false := by simp; omega
      go_enter Try.func24, Try.ntmps24
      go_wp2_with fail
      refine H.out.mono ?_
      rintro e w' ⟨rfl, rfl⟩
      go_wp2_with fail
      refine (top_any _).mono ?_
      rintro e w1 ⟨rfl, hb⟩
      obtain ⟨m1, m2, m3, m4⟩ := HM.out w1 hb
      obtain ⟨g, rfl, c3⟩ := m4 j _ hget0
      have lg : g < w1.heap.size := World.block_lt_of_cell? w1 _ c3
      have a0 : w1.cell? ⟨w.heap.size, 0, none⟩ = some (.string ⟨#[]⟩) := m2.cell 0
      have a1 : w1.cell? ⟨w.heap.size, 1, none⟩ = some (.string ⟨#[]⟩) := m2.cell 1
      have b0 : w1.frozen? ⟨w.heap.size, 0, none⟩ = false := m2.free 0
      have b1 : w1.frozen? ⟨w.heap.size, 1, none⟩ = false := m2.free 1
      have lw1 : w.heap.size < w1.heap.size := m2.lt
      have lp : p < w1.heap.size := World.block_lt_of_cell? w1 _ m3
      have HB := Lib.hid m1
      clear hb m1 m2 m4 hget0 hjl
      go_wp2
      exact bodyPost_ret (v := .tuple #[Sp x top, .int .i64 0]) (by simp [results, Try.results24, go_sem, a0, a1, lw1]) rfl ⟨rfl, ((HB.out.setCell (p := ⟨w.heap.size, 0, none⟩) (Nat.le_refl _) _).setCell (p := ⟨w.heap.size, 1, none⟩) (Nat.le_refl _) _).alloc (by simp [World.setCell]; omega) _⟩
end

end Rr
end Go.Proofs.Ytpkiiimbichooaa
