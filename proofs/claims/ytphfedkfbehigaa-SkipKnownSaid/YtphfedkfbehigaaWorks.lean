/-
  Walk: 'works' (scriptoriumlaw09): the chapter's list answers as the chapter says.
-/
import Derived.Test.YtphfedkfbehigaaWorksFacts
namespace Go.Proofs.Ytphfedkfbehigaa
open Go.RowKit Sk
namespace Wk
open St

abbrev LP (L : Nat) : Value := .pointer (some ⟨L, 0, none⟩)

section
variable (B L : Nat) (w : World)
theorem put1 (h : Sk B w L []) (hB : B ≤ w.heap.size) : Calls Try.prog 30 #[LP L, .string ⟨#[98]⟩, .int .i64 1, .int .i64 1] w fun e w' => e = .returned (.bool true) ∧ Sk B w' L r1 ∧ Below B w w' :=
  (Put_st B L [] kb 1 1 w h hB (by simp)).mono fun _ _ ⟨he, hs, ht⟩ => ⟨he, hs, below_of ht hB⟩
theorem put2 (h : Sk B w L r1) (hB : B ≤ w.heap.size) : Calls Try.prog 30 #[LP L, .string ⟨#[97]⟩, .int .i64 2, .int .i64 3] w fun e w' => e = .returned (.bool true) ∧ Sk B w' L r2 ∧ Below B w w' :=
  (Put_st B L r1 ka 2 3 w h hB (by simp [r1])).mono fun _ _ ⟨he, hs, ht⟩ => ⟨he, by rw [← p2]; exact hs, below_of ht hB⟩
theorem put3 (h : Sk B w L r2) (hB : B ≤ w.heap.size) : Calls Try.prog 30 #[LP L, .string ⟨#[98]⟩, .int .i64 3, .int .i64 9] w fun e w' => e = .returned (.bool true) ∧ Sk B w' L r3 ∧ Below B w w' :=
  (Put_st B L r2 kb 3 9 w h hB (by simp [r2])).mono fun _ _ ⟨he, hs, ht⟩ => ⟨he, by rw [← p3]; exact hs, below_of ht hB⟩
theorem put4 (h : Sk B w L r3) (hB : B ≤ w.heap.size) : Calls Try.prog 30 #[LP L, .string ⟨#[99]⟩, .int .i64 4, .int .i64 0] w fun e w' => e = .returned (.bool false) ∧ Sk B w' L r3 ∧ Below B w w' :=
  (Put_st B L r3 kc 4 0 w h hB (by simp [r3])).mono fun _ _ ⟨he, hs, ht⟩ => ⟨he, hs, below_of ht hB⟩
theorem put5 (h : Sk B w L r3) (hB : B ≤ w.heap.size) : Calls Try.prog 30 #[LP L, .string ⟨#[99]⟩, .int .i64 4, .int .i64 17] w fun e w' => e = .returned (.bool false) ∧ Sk B w' L r3 ∧ Below B w w' :=
  (Put_st B L r3 kc 4 17 w h hB (by simp [r3])).mono fun _ _ ⟨he, hs, ht⟩ => ⟨he, hs, below_of ht hB⟩
theorem len_ (h : Sk B w L r3) : Calls Try.prog 14 #[LP L] w fun e w' => e = .returned (.int .i64 2) ∧ w = w' := Len_st B L r3 w h
theorem get_b (h : Sk B w L r3) : Calls Try.prog 16 #[LP L, .string ⟨#[98]⟩] w fun e w' => e = .returned (.tuple #[.int .i64 3, .bool true]) ∧ Below w.heap.size w w' := by
  have := Get_st B L r3 w kb h
  rw [g_b.1, g_b.2] at this
  exact this
theorem first_aa (h : Sk B w L r3) : Calls Try.prog 18 #[LP L, .string ⟨#[97, 97]⟩] w fun e w' => e = .returned (.tuple #[.string ⟨#[98]⟩, .bool true]) ∧ Below w.heap.size w w' := by
  have := First_st B L r3 w kaa h
  rw [f_aa.1, f_aa.2] at this
  exact this
theorem first_c (h : Sk B w L r3) : Calls Try.prog 18 #[LP L, .string ⟨#[99]⟩] w fun e w' => e = .returned (.tuple #[.string (firstV kc r3), .bool false]) ∧ Below w.heap.size w w' := by
  have := First_st B L r3 w kc h
  rw [f_c] at this
  exact this
theorem last_b (h : Sk B w L r3) : Calls Try.prog 20 #[LP L, .string ⟨#[98]⟩] w fun e w' => e = .returned (.tuple #[.string ⟨#[97]⟩, .bool true]) ∧ Below w.heap.size w w' := by
  have := Last_st B L r3 w kb h
  rw [t_b.1, t_b.2] at this
  exact this
theorem last_0 (h : Sk B w L r3) : Calls Try.prog 20 #[LP L, .string ⟨#[]⟩] w fun e w' => e = .returned (.tuple #[.string ⟨#[98]⟩, .bool true]) ∧ Below w.heap.size w w' := by
  have := Last_st B L r3 w k0 h
  rw [t_0.1, t_0.2] at this
  exact this
theorem last_a (h : Sk B w L r3) : Calls Try.prog 20 #[LP L, .string ⟨#[97]⟩] w fun e w' => e = .returned (.tuple #[.string (lastV ka r3), .bool false]) ∧ Below w.heap.size w w' := by
  have := Last_st B L r3 w ka h
  rw [t_a] at this
  exact this
theorem steps_b (h : Sk B w L r3) : Calls Try.prog 22 #[LP L, .string ⟨#[98]⟩] w fun e w' => e = .returned (.int .i64 1) ∧ Below w.heap.size w w' := by
  have := Steps_st B L r3 w kb h
  rw [s_b] at this
  exact this
theorem steps_a (h : Sk B w L r3) : Calls Try.prog 22 #[LP L, .string ⟨#[97]⟩] w fun e w' => e = .returned (.int .i64 3) ∧ Below w.heap.size w w' := by
  have := Steps_st B L r3 w ka h
  rw [s_a] at this
  exact this
theorem steps_c (h : Sk B w L r3) : Calls Try.prog 22 #[LP L, .string ⟨#[99]⟩] w fun e w' => e = .returned (.int .i64 0) ∧ Below w.heap.size w w' := by
  have := Steps_st B L r3 w kc h
  rw [s_c] at this
  exact this
theorem step_1 (h : Sk B w L r3) : Calls Try.prog 24 #[LP L, .int .i64 1] w fun e w' => ∃ u, e = .returned u ∧ Sm.Strs w' u [⟨#[97]⟩, ⟨#[98]⟩] ∧ (∀ g, u.ownBlock = some g → g < w'.heap.size) ∧ Below w.heap.size w w' := by
  refine (Step_st B L r3 w 1 h (by simp [r3])).mono fun e w' ⟨u, he, ho, hb⟩ => ⟨u, he, ?_, fun g hg => (ho.lt g hg).2, hb⟩
  rw [u_1] at ho
  exact Sm.Strs.of_owns ho
theorem step_2 (h : Sk B w L r3) : Calls Try.prog 24 #[LP L, .int .i64 2] w fun e w' => ∃ u, e = .returned u ∧ Sm.Strs w' u [⟨#[97]⟩] ∧ (∀ g, u.ownBlock = some g → g < w'.heap.size) ∧ Below w.heap.size w w' := by
  refine (Step_st B L r3 w 2 h (by simp [r3])).mono fun e w' ⟨u, he, ho, hb⟩ => ⟨u, he, ?_, fun g hg => (ho.lt g hg).2, hb⟩
  rw [u_2] at ho
  exact Sm.Strs.of_owns ho
theorem step_4 (h : Sk B w L r3) : Calls Try.prog 24 #[LP L, .int .i64 4] w fun e w' => ∃ A c, e = .returned (.slice A 0 c) ∧ Below w.heap.size w w' := by
  refine (Step_st B L r3 w 4 h (by simp [r3])).mono fun e w' ⟨u, he, ho, hb⟩ => ?_
  rw [u_4] at ho
  obtain ⟨A, c, hu, _⟩ := Sm.Strs.of_owns ho
  exact ⟨A, c, by rw [he, hu]; rfl, hb⟩
theorem step_0 (h : Sk B w L r3) : Calls Try.prog 24 #[LP L, .int .i64 0] w fun e w' => ∃ A c, e = .returned (.slice A 0 c) ∧ Below w.heap.size w w' := by
  refine (Step_st B L r3 w 0 h (by simp [r3])).mono fun e w' ⟨u, he, ho, hb⟩ => ?_
  rw [u_0] at ho
  obtain ⟨A, c, hu, _⟩ := Sm.Strs.of_owns ho
  exact ⟨A, c, by rw [he, hu]; rfl, hb⟩
end

set_option maxRecDepth 100000 in
set_option maxHeartbeats 2000000 in
theorem works_any (w : World) : Calls Try.prog 27 #[] w fun e w' => e = .returned (.bool true) ∧ Below w.heap.size w w' := by
  obtain ⟨B, hBw⟩ : ∃ B, w.heap.size = B := ⟨_, rfl⟩
  have HBW := Lib.hid hBw
  clear hBw
  go_enter Try.func27, Try.ntmps27
  go_wp2_with fail
  refine (New_st w B (by rw [HBW.out]; exact Nat.le_refl _)).mono ?_
  rintro e w1 ⟨rfl, hb1, hs1⟩
  generalize w.heap.size + 1 = L at *
  have H1 := Lib.hid (And.intro (show Below B w w1 from HBW.out ▸ hb1) hs1)
  have z1 : Hid (B ≤ w1.heap.size) := by show _ ≤ _; have := H1.out.1.size; have := HBW.out; omega
  clear hb1 hs1
  go_wp2_with fail
  refine (put1 B L _ H1.out.2 z1.out).mono ?_
  rintro e w2 ⟨rfl, hs2, hb2⟩
  have H2 := Lib.hid (And.intro (H1.out.1.trans hb2) hs2)
  have z2 : Hid (B ≤ w2.heap.size) := Nat.le_trans z1.out hb2.size
  clear hs2 hb2 H1 z1
  go_wp2_with fail
  refine (put2 B L _ H2.out.2 z2.out).mono ?_
  rintro e w3 ⟨rfl, hs3, hb3⟩
  have H3 := Lib.hid (And.intro (H2.out.1.trans hb3) hs3)
  have z3 : Hid (B ≤ w3.heap.size) := Nat.le_trans z2.out hb3.size
  clear hs3 hb3 H2 z2
  go_wp2_with fail
  refine (put3 B L _ H3.out.2 z3.out).mono ?_
  rintro e w4 ⟨rfl, hs4, hb4⟩
  have H4 := Lib.hid (And.intro (H3.out.1.trans hb4) hs4)
  have z4 : Hid (B ≤ w4.heap.size) := Nat.le_trans z3.out hb4.size
  clear hs4 hb4 H3 z3
  go_wp2_with fail
  refine (put4 B L _ H4.out.2 z4.out).mono ?_
  rintro e w5 ⟨rfl, hs5, hb5⟩
  have H5 := Lib.hid (And.intro (H4.out.1.trans hb5) hs5)
  have z5 : Hid (B ≤ w5.heap.size) := Nat.le_trans z4.out hb5.size
  clear hs5 hb5 H4 z4
  go_wp2_with fail
  refine (put5 B L _ H5.out.2 z5.out).mono ?_
  rintro e w6 ⟨rfl, hs6, hb6⟩
  have H6 := Lib.hid (And.intro (H5.out.1.trans hb6) hs6)
  have z6 : Hid (B ≤ w6.heap.size) := Nat.le_trans z5.out hb6.size
  clear hs6 hb6 H5 z5
  go_wp2_with fail
  refine (get_b B L _ H6.out.2).mono ?_
  rintro e w7 ⟨rfl, hb⟩
  have H7 := Lib.hid (And.intro (H6.out.1.trans (hb.mono z6.out)) (H6.out.2.below hb))
  have z7 : Hid (B ≤ w7.heap.size) := Nat.le_trans z6.out hb.size
  clear hb H6 z6
  go_wp2_with fail
  refine (first_aa B L _ H7.out.2).mono ?_
  rintro e w8 ⟨rfl, hb⟩
  have H8 := Lib.hid (And.intro (H7.out.1.trans (hb.mono z7.out)) (H7.out.2.below hb))
  have z8 : Hid (B ≤ w8.heap.size) := Nat.le_trans z7.out hb.size
  clear hb H7 z7
  go_wp2_with fail
  refine (first_c B L _ H8.out.2).mono ?_
  rintro e w9 ⟨rfl, hb⟩
  have H9 := Lib.hid (And.intro (H8.out.1.trans (hb.mono z8.out)) (H8.out.2.below hb))
  have z9 : Hid (B ≤ w9.heap.size) := Nat.le_trans z8.out hb.size
  clear hb H8 z8
  go_wp2_with fail
  refine (last_b B L _ H9.out.2).mono ?_
  rintro e w10 ⟨rfl, hb⟩
  have H10 := Lib.hid (And.intro (H9.out.1.trans (hb.mono z9.out)) (H9.out.2.below hb))
  have z10 : Hid (B ≤ w10.heap.size) := Nat.le_trans z9.out hb.size
  clear hb H9 z9
  go_wp2_with fail
  refine (last_0 B L _ H10.out.2).mono ?_
  rintro e w11 ⟨rfl, hb⟩
  have H11 := Lib.hid (And.intro (H10.out.1.trans (hb.mono z10.out)) (H10.out.2.below hb))
  have z11 : Hid (B ≤ w11.heap.size) := Nat.le_trans z10.out hb.size
  clear hb H10 z10
  go_wp2_with fail
  refine (last_a B L _ H11.out.2).mono ?_
  rintro e w12 ⟨rfl, hb⟩
  have H12 := Lib.hid (And.intro (H11.out.1.trans (hb.mono z11.out)) (H11.out.2.below hb))
  have z12 : Hid (B ≤ w12.heap.size) := Nat.le_trans z11.out hb.size
  clear hb H11 z11
  go_wp2_with fail
  refine (len_ B L _ H12.out.2).mono ?_
  rintro e w' ⟨rfl, rfl⟩
  go_wp2_with fail
  refine (steps_b B L _ H12.out.2).mono ?_
  rintro e w13 ⟨rfl, hb⟩
  have H13 := Lib.hid (And.intro (H12.out.1.trans (hb.mono z12.out)) (H12.out.2.below hb))
  have z13 : Hid (B ≤ w13.heap.size) := Nat.le_trans z12.out hb.size
  clear hb H12 z12
  go_wp2_with fail
  refine (steps_a B L _ H13.out.2).mono ?_
  rintro e w14 ⟨rfl, hb⟩
  have H14 := Lib.hid (And.intro (H13.out.1.trans (hb.mono z13.out)) (H13.out.2.below hb))
  have z14 : Hid (B ≤ w14.heap.size) := Nat.le_trans z13.out hb.size
  clear hb H13 z13
  go_wp2_with fail
  refine (steps_c B L _ H14.out.2).mono ?_
  rintro e w15 ⟨rfl, hb⟩
  have H15 := Lib.hid (And.intro (H14.out.1.trans (hb.mono z14.out)) (H14.out.2.below hb))
  have z15 : Hid (B ≤ w15.heap.size) := Nat.le_trans z14.out hb.size
  clear hb H14 z14
  go_wp2_with fail
  refine (step_1 B L _ H15.out.2).mono ?_
  rintro e w16 ⟨u, rfl, hu, hul, hb⟩
  have H16 := Lib.hid (And.intro (H15.out.1.trans (hb.mono z15.out)) (H15.out.2.below hb))
  have z16 : Hid (B ≤ w16.heap.size) := Nat.le_trans z15.out hb.size
  have hu2 : Sm.Strs (w16.alloc (.cells #[.string ⟨#[97]⟩, .string ⟨#[98]⟩] 9)) u [⟨#[97]⟩, ⟨#[98]⟩] := hu.keep fun g o hg => World.cell?_alloc_lt _ _ _ (hul g hg)
  have hv2 : Sm.Strs (w16.alloc (.cells #[.string ⟨#[97]⟩, .string ⟨#[98]⟩] 9)) (.slice (some ⟨w16.heap.size, 0, none⟩) 2 2) [⟨#[97]⟩, ⟨#[98]⟩] := Sm.Strs.new w16 [⟨#[97]⟩, ⟨#[98]⟩] _
  have HU := Lib.hid (And.intro hu2 hv2)
  clear hb H15 z15 hu hul hu2 hv2
  go_wp2_with fail
  refine (Sm.Same_yes _ _ _ _ HU.out.1 HU.out.2 (by simp)).mono ?_
  rintro e w' ⟨rfl, q, rfl⟩
  obtain ⟨w17, hw⟩ : ∃ w17, (w16.alloc (.cells #[.string ⟨#[97]⟩, .string ⟨#[98]⟩] 9)).drewN q = w17 := ⟨_, rfl⟩
  rw [hw]
  have hb : Below w16.heap.size w16 w17 := by rw [← hw]; exact below_drewN' ((Below.refl _ _).alloc (Nat.le_refl _) _) q
  have H17 := Lib.hid (And.intro (H16.out.1.trans (hb.mono z16.out)) (H16.out.2.below hb))
  have z17 : Hid (B ≤ w17.heap.size) := Nat.le_trans z16.out hb.size
  clear hb H16 z16 hw HU
  go_wp2_with fail
  refine (step_2 B L _ H17.out.2).mono ?_
  rintro e w18 ⟨u, rfl, hu, hul, hb⟩
  have H18 := Lib.hid (And.intro (H17.out.1.trans (hb.mono z17.out)) (H17.out.2.below hb))
  have z18 : Hid (B ≤ w18.heap.size) := Nat.le_trans z17.out hb.size
  have hu2 : Sm.Strs (w18.alloc (.cells #[.string ⟨#[97]⟩] 9)) u [⟨#[97]⟩] := hu.keep fun g o hg => World.cell?_alloc_lt _ _ _ (hul g hg)
  have hv2 : Sm.Strs (w18.alloc (.cells #[.string ⟨#[97]⟩] 9)) (.slice (some ⟨w18.heap.size, 0, none⟩) 1 1) [⟨#[97]⟩] := Sm.Strs.new w18 [⟨#[97]⟩] _
  have HU := Lib.hid (And.intro hu2 hv2)
  clear hb H17 z17 hu hul hu2 hv2
  go_wp2_with fail
  refine (Sm.Same_yes _ _ _ _ HU.out.1 HU.out.2 (by simp)).mono ?_
  rintro e w' ⟨rfl, q, rfl⟩
  obtain ⟨w19, hw⟩ : ∃ w19, (w18.alloc (.cells #[.string ⟨#[97]⟩] 9)).drewN q = w19 := ⟨_, rfl⟩
  rw [hw]
  have hb : Below w18.heap.size w18 w19 := by rw [← hw]; exact below_drewN' ((Below.refl _ _).alloc (Nat.le_refl _) _) q
  have H19 := Lib.hid (And.intro (H18.out.1.trans (hb.mono z18.out)) (H18.out.2.below hb))
  have z19 : Hid (B ≤ w19.heap.size) := Nat.le_trans z18.out hb.size
  clear hb H18 z18 hw HU
  go_wp2_with fail
  refine (step_4 B L _ H19.out.2).mono ?_
  rintro e w20 ⟨A19, c19, rfl, hb⟩
  have H20 := Lib.hid (And.intro (H19.out.1.trans (hb.mono z19.out)) (H19.out.2.below hb))
  have z20 : Hid (B ≤ w20.heap.size) := Nat.le_trans z19.out hb.size
  clear hb H19 z19
  go_wp2_with fail
  refine (step_0 B L _ H20.out.2).mono ?_
  rintro e w21 ⟨A20, c20, rfl, hb⟩
  have H21 := Lib.hid (And.intro (H20.out.1.trans (hb.mono z20.out)) (H20.out.2.below hb))
  have z21 : Hid (B ≤ w21.heap.size) := Nat.le_trans z20.out hb.size
  clear hb H20 z20
  go_wp2
  go_ret
  exact ⟨rfl, by rw [HBW.out]; exact H21.out.1⟩

end Wk
end Go.Proofs.Ytphfedkfbehigaa
