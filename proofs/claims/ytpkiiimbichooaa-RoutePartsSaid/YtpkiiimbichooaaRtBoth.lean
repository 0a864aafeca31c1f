/-
  Walks: the reference's spans (scriptoriumref16): list, Both, of two lists of one span each.
-/
import Derived.Test.YtpkiiimbichooaaRtEnds
import Derived.Test.YtpkiiimbichooaaRtParts
namespace Go.Proofs.Ytpkiiimbichooaa
open Go.RowKit Sk
namespace Rr
open Rt (Strs RP Sp em chk hs ri rb str_info withL ends2 has2 Asc meets mx mn)

/-- spans in a slice of the call's own: none, or the one -/
def Both (B : Nat) (w : World) (v : Value) (a b c d : ByteArray) : Prop :=
  (v = .slice none 0 0 ∧ meets a b c d = false) ∨
  (meets a b c d = true ∧ w.ownsRow B 34 2 v 1 [.string (mx a c), .string (mn b d)])
theorem span_info : (Try.prog.info? 34).map (fun i => (i.zero, i.size, i.bytes)) = some (some (.agg #[.string ⟨#[]⟩, .string ⟨#[]⟩]), 2, 32) := by kernel_rfl

theorem below_drewN {B : Nat} {w w' : World} (h : Below B w w') (n : Nat) : Below B w (w'.drewN n) := by
  induction n generalizing w' with
  | zero => exact h
  | succ n ih => first | exact (ih h).drew | exact ih h.drew

def ListRel (a b c d : ByteArray) (w : World) (cnt : Nat) (v10 s : Value) (w1 : World) : Prop :=
  ∃ i v, v = v10 ∧ s = .int .i64 (i : Nat) ∧ i + 1 + cnt = (ends2 a b c d).length ∧ Below w.heap.size w w1 ∧
    ((v = .slice none 0 0 ∧ ∀ j x, j < i → (ends2 a b c d)[j]? = some x → has2 a b c d x = false) ∨
     (meets a b c d = true ∧ w1.ownsRow w.heap.size 34 2 v 1 [.string (mx a c), .string (mn b d)] ∧ ∃ j, j < i ∧ (ends2 a b c d)[j]? = some (mx a c)))

set_option maxRecDepth 100000 in
set_option maxHeartbeats 1000000 in
theorem list_two (g1 C1 g2 C2 : Nat) (a b c d : ByteArray) (w : World) (h1 : One w g1 a b) (h2 : One w g2 c d) (k1 : chk a b = 0) (k2 : chk c d = 0) :
    Calls Try.prog 50 #[Sl g1 C1, Sl g2 C2, .int .i64 1] w fun e w' => ∃ v', e = .returned (.tuple #[v', .int .i64 0]) ∧ Both w.heap.size w' v' a b c d ∧ Below w.heap.size w w' := by
  obtain ⟨i0, hi0, hz0, hz1, hz2⟩ := info_parts span_info
  have HI := Lib.hid (And.intro hi0 (And.intro hz0 (And.intro hz1 hz2)))
  have HO := Lib.hid (And.intro h1 h2)
  have HCK := Lib.hid (check_two g1 C1 g2 C2 a b c d w h1 h2 k1 k2)
  clear h1 h2 k1 k2 hi0 hz0 hz1 hz2
  go_enter Try.func50, Try.ntmps50
  go_wp2_with fail
  refine HCK.out.mono ?_
  rintro e w1 ⟨rfl, hb1⟩
  have HB1 := Lib.hid hb1
  clear hb1
  go_wp2_with fail
  refine (ends_two g1 C1 g2 C2 a b c d w1 (HO.out.1.below HB1.out) (HO.out.2.below HB1.out)).mono ?_
  rintro e w2 ⟨v2, rfl, hown2, hb2⟩
  have HB2 := Lib.hid (HB1.out.trans (hb2.mono HB1.out.size))
  rcases hown2.form with ⟨rfl, hnil⟩ | ⟨g, cap, rfl, hcap, hg, hcs⟩
  · exfalso
    have : a ∈ ends2 a b c d := Rt.mem_ends2.2 (.inl rfl)
    rw [hnil] at this
    cases this
  have HE : Hid (∃ L, L = ends2 a b c d) := ⟨_, rfl⟩
  have hlen := Rt.ends2_len a b c d
  have hpos : 0 < (ends2 a b c d).length := by
    have : a ∈ ends2 a b c d := Rt.mem_ends2.2 (.inl rfl)
    exact List.length_pos_of_mem this
  obtain ⟨n, hn⟩ : ∃ n, n = (ends2 a b c d).length := ⟨_, rfl⟩
  have HN := Lib.hid hn
  have HCS := Lib.hid hcs
  rw [← hn] at hlen hpos hcap ⊢
  clear hown2 hb2 hcs hn HE
  go_wp2
  go_loopg [10, 11] (n - 1) (fun cnt s10 s11 w3 => ListRel a b c d w cnt s10 s11 w3 ∧ Below w2.heap.size w2 w3)
  case atStart =>
    refine ⟨⟨0, _, rfl, rfl, by have := HN.out; omega, HB2.out, .inl ⟨rfl, fun j x hj => by omega⟩⟩, Below.refl _ _⟩
  case round =>
    obtain ⟨⟨i, v, rfl, rfl, hi, hbel, hst⟩, hbel2⟩ := hrel
    rw [← HN.out] at hi
    have HK := Lib.hid hi
    have HB := Lib.hid hbel
    have HB3 := Lib.hid hbel2
    have HST := Lib.hid hst
    by_cases hlt : i + 1 < n
    · have hx := List.getElem?_eq_getElem (show i < (ends2 a b c d).length by rw [← HN.out]; omega)
      have hy := List.getElem?_eq_getElem (show i + 1 < (ends2 a b c d).length by rw [← HN.out]; omega)
      have c0 := (hbel2.cell (p := ⟨g, i, none⟩) hg).trans (HCS.out i _ hx)
      have c1 := (hbel2.cell (p := ⟨g, i + 1, none⟩) hg).trans (HCS.out (i + 1) _ hy)
      have hgr : g < wr.heap.size := Nat.lt_of_lt_of_le hg hbel2.size
      have b1 : (i : Int) < (n : Int) := by omega
      have b2 : (i : Int) + 1 < (n : Int) := by omega
      have hw1 : IntKind.i64.wrap ((i : Int) + 1) = (i : Int) + 1 := IntWalk.i64_in _ (by omega)
      have hw2 : (0 : Int) ≤ (i : Int) + 1 := by omega
      have hw3 : ((i : Int) + 1).toNat = i + 1 := by omega
      have hw4 : (0 : Int) ≤ (i : Int) := by omega
      have HH := Lib.hid (has_two g1 C1 g2 C2 a b c d ((ends2 a b c d)[i]'(by rw [← HN.out]; omega)) wr (HO.out.1.below hbel) (HO.out.2.below hbel))
      generalize hX : (ends2 a b c d)[i]'(by rw [← HN.out]; omega) = x at *
      generalize hY : (ends2 a b c d)[i + 1]'(by rw [← HN.out]; omega) = y at *
      cases hh : has2 a b c d x with
      | false =>
        have HR : Hid (∀ w4, Below wr.heap.size wr w4 → ListRel a b c d w (n - (i + 2)) v (.int .i64 ((i : Int) + 1)) w4 ∧ Below w2.heap.size w2 w4) := fun w4 hb4 => by
          refine ⟨⟨i + 1, v, rfl, by simp, by rw [← HN.out]; omega, HB.out.trans (hb4.mono HB.out.size), ?_⟩, HB3.out.trans (hb4.mono HB3.out.size)⟩
          rcases HST.out with ⟨hv, hno⟩ | ⟨hm, hown, j, hj, hjx⟩
          · refine .inl ⟨hv, fun j z hj hz => ?_⟩
            by_cases e : j = i
            · subst e; rw [hx] at hz; injection hz with hz; rw [← hz]; exact hh
            · exact hno j z (by omega) hz
          · exact .inr ⟨hm, owns_keep hown (S := fun _ => False) (Turns.of_below hb4) (fun _ _ h => h), j, by omega, hjx⟩
        rw [hh] at HH
        clear hst hbel hbel2 hx hy hX hY hh hi
        go_wp2_with fail
        refine HH.out.mono ?_
        rintro e w4 ⟨rfl, hb4⟩
        have HR2 := Lib.hid (HR.out w4 hb4)
        clear hb4
        go_wp2
        go_roundg (n - (i + 2))
        case measure => have := HK.out; omega
        case rel => exact HR2.out
      | true =>
        obtain ⟨ex, ey, hm⟩ := Rt.two_at hx hy hh
        have hv : v = .slice none 0 0 := by
          rcases hst with ⟨hv, hno⟩ | ⟨_, _, j, hj, hjx⟩
          · exact hv
          · exfalso
            rw [← ex] at hjx
            have := Rt.asc_inj (Rt.ends2_asc a b c d) hjx hx
            omega
        subst hv
        have HR : Hid (∀ u w4, w4.ownsRow w.heap.size 34 2 u 1 [.string x, .string y] → Below w.heap.size w w4 → Below w2.heap.size w2 w4 → ListRel a b c d w (n - (i + 2)) u (.int .i64 ((i : Int) + 1)) w4 ∧ Below w2.heap.size w2 w4) := fun u w4 hu hb4 hb5 => by
          rw [ex, ey] at hu
          refine ⟨⟨i + 1, u, rfl, by simp, by rw [← HN.out]; omega, hb4, .inr ⟨hm, hu, i, by omega, ?_⟩⟩, hb5⟩
          rw [← ex]; exact hx
        rw [hh] at HH
        clear hst hbel hbel2 hx hy hX hY hh hi HST ex ey hm
        go_wp2_with fail
        refine HH.out.mono ?_
        rintro e w4 ⟨rfl, hb4⟩
        have d0 : w4.cell? ⟨g, i, none⟩ = some (.string x) := (hb4.cell (p := ⟨g, i, none⟩) hgr).trans c0
        have d1 : w4.cell? ⟨g, i + 1, none⟩ = some (.string y) := (hb4.cell (p := ⟨g, i + 1, none⟩) hgr).trans c1
        have hg4 : g < w4.heap.size := Nat.lt_of_lt_of_le hgr hb4.size
        have HB4 := Lib.hid (And.intro (HB.out.trans (hb4.mono HB.out.size)) (HB3.out.trans (hb4.mono HB3.out.size)))
        have hz4 : w.heap.size ≤ w4.heap.size := HB4.out.1.size
        have hz5 : w2.heap.size ≤ w4.heap.size := HB4.out.2.size
        clear hb4 c0 c1
        go_wp2
        go_quiet (fail)
        go_wp2
        go_region_held3 (fun w' => w'.cell? ⟨g, i, none⟩ = some (.string x) ∧ w'.cell? ⟨g, i + 1, none⟩ = some (.string y)) (first | go_keep | (go_split_ands; refine ⟨?_, ?_⟩ <;> (rw [hg7.cell_far _ (by simp; omega) (by intro h; cases h)]; go_keep)))
          ((refine step_append_lies _ (by rfl) (.tmp 65) (.tmp 76) 83 (by rfl) w.heap.size 34 i0 _ 2 32 Try.underlying83 HI.out.1 HI.out.2.1 HI.out.2.2.1 HI.out.2.2.2 rfl (by decide) (.slice none 0 0) 0 [] (by rfl) (World.ownsRow_nil _ _ _ _) ⟨w4.heap.size, 0, none⟩ 1 1 [.string x, .string y] (by rfl) (by rfl) ?_ (by intro u hu; simp at hu; rcases hu with rfl | rfl <;> rfl) (by omega) (by unfold maxLen; omega) (by omega) (by simp; omega) _ (by rfl) ?_; (focus (intro j u hj; exact (Rt.World.cell?_alloc_new_row _ _ _ _ hj))); intro g7 c7 w7 hown7 hg7 hat7 hlt7))
        all_goals
          have hb7 : Below w4.heap.size w4 w7 := ((below_drewN (Below.refl _ w4) _).alloc (by simp) _).grown hg7 (by simp) (fun k hk => nomatch (show (none : Option Nat) = some k from hk))
          have HR2 := Lib.hid (HR.out _ _ hown7 (HB4.out.1.trans (hb7.mono hz4)) (HB4.out.2.trans (hb7.mono hz5)))
          clear hown7 hg7 hb7
          go_wp2
          go_roundg (n - (i + 2))
          case measure => have := HK.out; omega
          case rel => exact HR2.out
    · have hin : i + 1 = n := by omega
      have ek2 : decide ((i : Int) + 1 < (n : Int)) = false := by simp; omega
      have ek : decide (i + 1 < n) = false := by simp; omega
      have HF : Hid (Both w.heap.size wr v a b c d ∧ Below w.heap.size w wr) := by
        refine ⟨?_, HB.out⟩
        rcases HST.out with ⟨hv, hno⟩ | ⟨hm, hown, _⟩
        · refine .inl ⟨hv, ?_⟩
          cases hmt : meets a b c d with
          | false => rfl
          | true =>
            obtain ⟨j, x, hj, hjx, hh⟩ := Rt.two_some hmt
            rw [hno j x (by rw [← HN.out] at hj; omega) hjx] at hh
            cases hh
        · exact .inr ⟨hm, hown⟩
      clear hbel hbel2 hst hi
      go_wp2
      go_ret2
      exact ⟨_, rfl, HF.out⟩

set_option maxHeartbeats 400000 in
theorem Both_two (g1 C1 g2 C2 : Nat) (a b c d : ByteArray) (w : World) (h1 : One w g1 a b) (h2 : One w g2 c d) (k1 : chk a b = 0) (k2 : chk c d = 0) :
    Calls Try.prog 41 #[Sl g1 C1, Sl g2 C2] w fun e w' => ∃ v', e = .returned (.tuple #[v', .int .i64 0]) ∧ Both w.heap.size w' v' a b c d ∧ Below w.heap.size w w' := by
  have H := Lib.hid (list_two g1 C1 g2 C2 a b c d w h1 h2 k1 k2)
  clear h1 h2 k1 k2
  go_enter Try.func41, Try.ntmps41
  go_wp2_with fail
  refine H.out.mono ?_
  rintro e w1 ⟨v1, rfl, hown, hb⟩
  have HF := Lib.hid (And.intro hown hb)
  clear hown hb
  go_wp2
  go_ret2
  exact ⟨_, rfl, HF.out⟩

end Rr
end Go.Proofs.Ytpkiiimbichooaa
