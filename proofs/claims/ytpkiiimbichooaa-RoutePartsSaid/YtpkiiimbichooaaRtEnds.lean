/-
  Walks: the reference's spans (scriptoriumref16): ends, of two lists of one span each.
-/
import Derived.Test.YtpkiiimbichooaaRtWith
namespace Go.Proofs.Ytpkiiimbichooaa
open Go.RowKit Sk
namespace Rr
open Rt (Strs RP Sp em chk hs ri rb str_info withL ends2 has2 Asc)

def EndsRel (a b c d : ByteArray) (w : World) (cnt : Nat) (v5 s : Value) (w1 : World) : Prop := ∃ v, v = v5 ∧ (
  (cnt = 2 ∧ s = .int .i64 0 ∧ Own w.heap.size w1 v [] ∧ Below w.heap.size w w1) ∨
  (cnt = 1 ∧ s = .int .i64 1 ∧ Own w.heap.size w1 v (withL (withL [] a) b) ∧ Below w.heap.size w w1) ∨
  (cnt = 0 ∧ s = .int .i64 2 ∧ Own w.heap.size w1 v (ends2 a b c d) ∧ Below w.heap.size w w1))

set_option maxRecDepth 100000 in
set_option maxHeartbeats 1000000 in
theorem ends_two (g1 c1 g2 c2 : Nat) (a b c d : ByteArray) (w : World) (h1 : One w g1 a b) (h2 : One w g2 c d) :
    Calls Try.prog 55 #[Sl g1 c1, Sl g2 c2] w fun e w' => ∃ v', e = .returned v' ∧ Own w.heap.size w' v' (ends2 a b c d) ∧ Below w.heap.size w w' := by
  have HO := Lib.hid (And.intro h1 h2)
  clear h1 h2
  go_enter Try.func55, Try.ntmps55
  go_wp2
  go_loopg [5, 6] 2 (fun cnt s5 s6 w1 => EndsRel a b c d w cnt s5 s6 w1)
  case atStart => exact ⟨_, rfl, .inl ⟨rfl, rfl, World.ownsRow_nil _ _ _ _, Below.refl _ _⟩⟩
  case round =>
    obtain ⟨v5, rfl, hrel⟩ := hrel
    rcases hrel with ⟨hc, rfl, hown, hbel⟩ | ⟨hc, rfl, hown, hbel⟩ | ⟨hc, rfl, hown, hbel⟩
    · have HC := Lib.hid hc
      clear hc
      obtain ⟨L, hL⟩ : ∃ L : List ByteArray, L = [] := ⟨_, rfl⟩
      rw [← hL] at hown
      have HLE := Lib.hid hL
      clear hL
      obtain ⟨x0, x1⟩ := HO.out.1.below hbel
      have HB := Lib.hid hbel
      have lg := World.block_lt_of_cell? wr _ x0
      have hsz : w.heap.size ≤ wr.heap.size := hbel.size
      have HOW := Lib.hid hown
      have HL : Hid (∀ v w2, Own w.heap.size w2 v (withL (withL L a) b) → Below w.heap.size w w2 → EndsRel a b c d w 1 v (.int .i64 1) w2) := fun v w2 h1 h2 => by
        rw [HLE.out] at h1
        exact ⟨v, rfl, .inr (.inl ⟨rfl, rfl, h1, h2⟩)⟩
      have HA : Hid (L.length ≤ 8 ∧ Asc L ∧ (withL L a).length ≤ 8 ∧ Asc (withL L a)) := by
        have hl1 : L.length ≤ 4 := by
          rw [HLE.out]
          simp
        have hl2 := Rt.withL_len L a
        have hs1 : Asc L := by
          rw [HLE.out]
          exact List.Pairwise.nil
        exact ⟨by omega, hs1, by omega, Rt.withL_asc hs1 _⟩
      clear hown hbel HLE
      go_wp2
      go_region_held3 (fun w' => w'.cell? ⟨wr.heap.size, 0, none⟩ = some (.string a) ∧ w'.cell? ⟨wr.heap.size, 1, none⟩ = some (.string b)) (first | assumption | go_keep)
        (first
          | (go_at_call_of 57 v5
             refine (with_any w.heap.size v5 L a _ (HOW.out.below (((Below.refl _ wr).alloc (Nat.le_refl _) _).drew)) ?_ HA.out.1 HA.out.2.1).mono ?_
             (focus (simp; omega))
             rintro e w2 ⟨v2, rfl, hown2, hb2⟩
             have c20 : w2.cell? ⟨wr.heap.size, 0, none⟩ = some (.string a) := (hb2.cell (p := ⟨wr.heap.size, 0, none⟩) (by simp)).trans (by go_simp)
             have c21 : w2.cell? ⟨wr.heap.size, 1, none⟩ = some (.string b) := (hb2.cell (p := ⟨wr.heap.size, 1, none⟩) (by simp)).trans (by go_simp)
             have c2 := And.intro c20 c21
             have hz2 : wr.heap.size + 1 ≤ w2.heap.size := by have := hb2.size; simp at this; omega
             have h2 := Lib.hid (And.intro hown2 ((((Below.refl _ wr).alloc (Nat.le_refl _) _).drew).trans (hb2.mono (by simp))))
             clear hown2 hb2 c20 c21)
          | (go_at_call_of 57 v2
             refine (with_any w.heap.size v2 (withL L a) b _ h2.out.1 (by omega) HA.out.2.2.1 HA.out.2.2.2).mono ?_
             rintro e w3 ⟨v3, rfl, hown3, hb3⟩
             have c3 : w3.cell? ⟨wr.heap.size, 0, none⟩ = some (.string a) ∧ w3.cell? ⟨wr.heap.size, 1, none⟩ = some (.string b) := ⟨(hb3.cell (p := ⟨wr.heap.size, 0, none⟩) (show wr.heap.size < w2.heap.size by omega)).trans c2.1, (hb3.cell (p := ⟨wr.heap.size, 1, none⟩) (show wr.heap.size < w2.heap.size by omega)).trans c2.2⟩
             have h3 := Lib.hid (HL.out _ _ hown3 (HB.out.trans ((h2.out.2.trans (hb3.mono (by omega))).mono hsz)))
             clear hown3 hb3))
      go_wp2
      go_roundg 1
      case measure => have := HC.out; omega
      case rel => exact h3.out
    · have HC := Lib.hid hc
      clear hc
      obtain ⟨L, hL⟩ : ∃ L : List ByteArray, L = withL (withL [] a) b := ⟨_, rfl⟩
      rw [← hL] at hown
      have HLE := Lib.hid hL
      clear hL
      obtain ⟨x0, x1⟩ := HO.out.2.below hbel
      have HB := Lib.hid hbel
      have lg := World.block_lt_of_cell? wr _ x0
      have hsz : w.heap.size ≤ wr.heap.size := hbel.size
      have HOW := Lib.hid hown
      have HL : Hid (∀ v w2, Own w.heap.size w2 v (withL (withL L c) d) → Below w.heap.size w w2 → EndsRel a b c d w 0 v (.int .i64 2) w2) := fun v w2 h1 h2 => by
        rw [HLE.out] at h1
        exact ⟨v, rfl, .inr (.inr ⟨rfl, rfl, h1, h2⟩)⟩
      have HA : Hid (L.length ≤ 8 ∧ Asc L ∧ (withL L c).length ≤ 8 ∧ Asc (withL L c)) := by
        have hl1 : L.length ≤ 4 := by
          rw [HLE.out]
          have h1 := Rt.withL_len [] a; have h2 := Rt.withL_len (withL [] a) b; simp at h1; omega
        have hl2 := Rt.withL_len L c
        have hs1 : Asc L := by
          rw [HLE.out]
          exact Rt.withL_asc (Rt.withL_asc List.Pairwise.nil _) _
        exact ⟨by omega, hs1, by omega, Rt.withL_asc hs1 _⟩
      clear hown hbel HLE
      go_wp2
      go_region_held3 (fun w' => w'.cell? ⟨wr.heap.size, 0, none⟩ = some (.string c) ∧ w'.cell? ⟨wr.heap.size, 1, none⟩ = some (.string d)) (first | assumption | go_keep)
        (first
          | (go_at_call_of 57 v5
             refine (with_any w.heap.size v5 L c _ (HOW.out.below (((Below.refl _ wr).alloc (Nat.le_refl _) _).drew)) ?_ HA.out.1 HA.out.2.1).mono ?_
             (focus (simp; omega))
             rintro e w2 ⟨v2, rfl, hown2, hb2⟩
             have c20 : w2.cell? ⟨wr.heap.size, 0, none⟩ = some (.string c) := (hb2.cell (p := ⟨wr.heap.size, 0, none⟩) (by simp)).trans (by go_simp)
             have c21 : w2.cell? ⟨wr.heap.size, 1, none⟩ = some (.string d) := (hb2.cell (p := ⟨wr.heap.size, 1, none⟩) (by simp)).trans (by go_simp)
             have c2 := And.intro c20 c21
             have hz2 : wr.heap.size + 1 ≤ w2.heap.size := by have := hb2.size; simp at this; omega
             have h2 := Lib.hid (And.intro hown2 ((((Below.refl _ wr).alloc (Nat.le_refl _) _).drew).trans (hb2.mono (by simp))))
             clear hown2 hb2 c20 c21)
          | (go_at_call_of 57 v2
             refine (with_any w.heap.size v2 (withL L c) d _ h2.out.1 (by omega) HA.out.2.2.1 HA.out.2.2.2).mono ?_
             rintro e w3 ⟨v3, rfl, hown3, hb3⟩
             have c3 : w3.cell? ⟨wr.heap.size, 0, none⟩ = some (.string c) ∧ w3.cell? ⟨wr.heap.size, 1, none⟩ = some (.string d) := ⟨(hb3.cell (p := ⟨wr.heap.size, 0, none⟩) (show wr.heap.size < w2.heap.size by omega)).trans c2.1, (hb3.cell (p := ⟨wr.heap.size, 1, none⟩) (show wr.heap.size < w2.heap.size by omega)).trans c2.2⟩
             have h3 := Lib.hid (HL.out _ _ hown3 (HB.out.trans ((h2.out.2.trans (hb3.mono (by omega))).mono hsz)))
             clear hown3 hb3))
      go_wp2
      go_roundg 0
      case measure => have := HC.out; omega
      case rel => exact h3.out
    · have HF := Lib.hid (And.intro hown hbel)
      clear hc hown hbel
      go_wp2
      go_ret
      exact ⟨_, rfl, HF.out⟩

end Rr
end Go.Proofs.Ytpkiiimbichooaa
