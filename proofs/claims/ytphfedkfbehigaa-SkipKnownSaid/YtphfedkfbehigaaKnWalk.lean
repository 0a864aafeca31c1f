/-
  Walk: the law SkipKnown.
-/
import Derived.Test.YtphfedkfbehigaaKnFacts
import Derived.Test.YtphfedkfbehigaaKnNone
import Derived.Test.YtphfedkfbehigaaWorks
namespace Go.Proofs.Ytphfedkfbehigaa
open Go.RowKit Sk
namespace Kn
open St

abbrev LP (L : Nat) : Value := .pointer (some ⟨L, 0, none⟩)
def i1 (va : Option Addr) (vl vc : Nat) : List It := [⟨⟨#[]⟩, .slice va vl vc, 16⟩]
def i2 (va : Option Addr) (vl vc : Nat) (wa : Option Addr) (wl wc : Nat) : List It := [⟨⟨#[]⟩, .slice va vl vc, 16⟩, ⟨⟨#[255]⟩, .slice wa wl wc, 1⟩]
def i3 (va : Option Addr) (vl vc : Nat) (wa : Option Addr) (wl wc : Nat) : List It := [⟨⟨#[]⟩, .slice va vl vc, 16⟩, ⟨⟨#[0]⟩, .slice none 0 0, 2⟩, ⟨⟨#[255]⟩, .slice wa wl wc, 1⟩]
theorem q01 : kl ⟨#[]⟩ ⟨#[0]⟩ = true := Wk.kl_of _ _ _ rfl
theorem q02 : kl ⟨#[]⟩ ⟨#[255]⟩ = true := Wk.kl_of _ _ _ rfl
theorem q12 : kl ⟨#[0]⟩ ⟨#[255]⟩ = true := Wk.kl_of _ _ _ rfl
theorem q00 : kl ⟨#[]⟩ ⟨#[]⟩ = false := Wk.kl_of _ _ _ rfl
theorem q11 : kl ⟨#[0]⟩ ⟨#[0]⟩ = false := Wk.kl_of _ _ _ rfl
theorem q20 : kl ⟨#[255]⟩ ⟨#[]⟩ = false := Wk.kl_of _ _ _ rfl
theorem q21 : kl ⟨#[255]⟩ ⟨#[0]⟩ = false := Wk.kl_of _ _ _ rfl
theorem q10 : kl ⟨#[0]⟩ ⟨#[]⟩ = false := Wk.kl_of _ _ _ rfl
theorem q0m : kl ⟨#[]⟩ ⟨#[0, 0]⟩ = true := Wk.kl_of _ _ _ rfl
theorem q1m : kl ⟨#[0]⟩ ⟨#[0, 0]⟩ = true := Wk.kl_of _ _ _ rfl
theorem q2m : kl ⟨#[255]⟩ ⟨#[0, 0]⟩ = false := Wk.kl_of _ _ _ rfl

section
variable (B L : Nat) (w : World) (va : Option Addr) (vl vc : Nat) (wa : Option Addr) (wl wc : Nat)
theorem c_len (h : LS B w L []) : Calls Try.prog 34 #[LP L] w fun e w' => e = .returned (.int .i64 0) ∧ w = w' := ls_len B L w [] h
theorem c_step (h : LS B w L []) : Calls Try.prog 36 #[LP L, .int .i64 1] w fun e w' => ∃ A c, e = .returned (.slice A 0 c) ∧ Below w.heap.size w w' := by
  refine (ls_step B L 0 w [] h (by omega) (by simp)).mono fun e w' ⟨u, he, hu, _, hb⟩ => ?_
  obtain ⟨A, c, hu, _⟩ := hu
  exact ⟨A, c, by rw [he, hu]; rfl, hb⟩
theorem c_put1 (h : LS B w L []) (hB : B ≤ w.heap.size) : Calls Try.prog 37 #[LP L, .string ⟨#[]⟩, .slice va vl vc, .int .i64 16] w fun e w' => e = .returned (.bool true) ∧ LS B w' L (i1 va vl vc) ∧ Below B w w' :=
  ls_put B L w [] [] ⟨#[]⟩ va vl vc 16 h hB (by omega) (by omega) (fun y hy => by cases hy) (fun y hy => by cases hy) (by simp)
theorem c_put2 (h : LS B w L (i1 va vl vc)) (hB : B ≤ w.heap.size) : Calls Try.prog 37 #[LP L, .string ⟨#[255]⟩, .slice wa wl wc, .int .i64 1] w fun e w' => e = .returned (.bool true) ∧ LS B w' L (i2 va vl vc wa wl wc) ∧ Below B w w' :=
  ls_put B L w (i1 va vl vc) [] ⟨#[255]⟩ wa wl wc 1 (by rw [List.append_nil]; exact h) hB (by omega) (by omega) (fun y hy => by rw [List.mem_singleton.1 hy]; exact q02) (fun y hy => by cases hy) (by simp [i1])
theorem c_put3 (h : LS B w L (i2 va vl vc wa wl wc)) (hB : B ≤ w.heap.size) : Calls Try.prog 37 #[LP L, .string ⟨#[0]⟩, .slice none 0 0, .int .i64 2] w fun e w' => e = .returned (.bool true) ∧ LS B w' L (i3 va vl vc wa wl wc) ∧ Below B w w' :=
  ls_put B L w (i1 va vl vc) [⟨⟨#[255]⟩, .slice wa wl wc, 1⟩] ⟨#[0]⟩ none 0 0 2 h hB (by omega) (by omega) (fun y hy => by rw [List.mem_singleton.1 hy]; exact q01) (fun y hy => by rw [List.mem_singleton.1 hy]; exact ⟨q21, fun e => by have h2 := q12; rw [show (⟨#[255]⟩ : ByteArray) = ⟨#[0]⟩ from e] at h2; rw [q11] at h2; cases h2⟩) (by simp [i1])
variable (h : LS B w L (i3 va vl vc wa wl wc))
include h
theorem c_first0 : Calls Try.prog 38 #[LP L, .string ⟨#[]⟩] w fun e w' => e = .returned (.tuple #[.string ⟨#[]⟩, .bool true]) ∧ Below w.heap.size w w' :=
  ls_first B L w _ ⟨#[]⟩ ⟨⟨#[]⟩, .slice va vl vc, 16⟩ _ h (by simp only [hi, i3, List.dropWhile_cons, q00]; rfl)
theorem c_first1 : Calls Try.prog 38 #[LP L, .string ⟨#[0]⟩] w fun e w' => e = .returned (.tuple #[.string ⟨#[0]⟩, .bool true]) ∧ Below w.heap.size w w' :=
  ls_first B L w _ ⟨#[0]⟩ ⟨⟨#[0]⟩, .slice none 0 0, 2⟩ _ h (by simp only [hi, i3, List.dropWhile_cons, q01, q11]; rfl)
theorem c_last0 : Calls Try.prog 39 #[LP L, .string ⟨#[]⟩] w fun e w' => e = .returned (.tuple #[.string ⟨#[255]⟩, .bool true]) ∧ Below w.heap.size w w' :=
  ls_last B L w _ ⟨⟨#[255]⟩, .slice wa wl wc, 1⟩ h rfl
theorem c_lastm : Calls Try.prog 39 #[LP L, .string ⟨#[0, 0]⟩] w fun e w' => e = .returned (.tuple #[.string ⟨#[0]⟩, .bool true]) ∧ Below w.heap.size w w' :=
  ls_last_below B L w _ ⟨#[0, 0]⟩ ⟨⟨#[0]⟩, .slice none 0 0, 2⟩ h (fun e => by have h2 := q0m; rw [e, q00] at h2; cases h2) (by simp only [lo, i3, List.takeWhile_cons, q0m, q1m, q2m]; rfl)
theorem c_last1 : Calls Try.prog 39 #[LP L, .string ⟨#[0]⟩] w fun e w' => e = .returned (.tuple #[.string ⟨#[]⟩, .bool true]) ∧ Below w.heap.size w w' :=
  ls_last_below B L w _ ⟨#[0]⟩ ⟨⟨#[]⟩, .slice va vl vc, 16⟩ h (fun e => by have h2 := q01; rw [e, q00] at h2; cases h2) (by simp only [lo, i3, List.takeWhile_cons, q01, q11]; rfl)
theorem c_step1 : Calls Try.prog 36 #[LP L, .int .i64 1] w fun e w' => ∃ u, e = .returned u ∧ Sm.Strs w' u [⟨#[]⟩, ⟨#[0]⟩, ⟨#[255]⟩] ∧ (∀ g, u.ownBlock = some g → g < w'.heap.size) ∧ Below w.heap.size w w' :=
  ls_step B L 0 w _ h (by omega) (by simp [i3])
theorem c_step16 : Calls Try.prog 36 #[LP L, .int .i64 16] w fun e w' => ∃ u, e = .returned u ∧ Sm.Strs w' u [⟨#[]⟩] ∧ (∀ g, u.ownBlock = some g → g < w'.heap.size) ∧ Below w.heap.size w w' :=
  ls_step B L 15 w _ h (by omega) (by simp [i3])
theorem c_step17 : Calls Try.prog 36 #[LP L, .int .i64 17] w fun e w' => e = .returned (.slice none 0 0) ∧ w = w' := ls_step_out B L 17 w _ h (by omega)
end
theorem repeat_k (c : Nat) (n : Int) (hn : n = (c : Int)) (h : c ≤ 200) (w : World) : Calls Try.prog 40 #[.string ⟨#[107]⟩, .int .i64 n] w fun e w' => e = .returned (.string (kk c)) ∧ Below w.heap.size w w' := by
  subst hn
  exact (Try.strings_Repeat ⟨#[107]⟩ c w (by omega) (by show 1 * c ≤ _; omega)).mono fun _ _ ⟨he, hb⟩ => ⟨he, hb⟩
theorem put_many (B L i : Nat) (w : World) (hi : i < 200) (h : Sk B w L (M i)) (hB : B ≤ w.heap.size) : Calls Try.prog 30 #[LP L, .string (kk (200 - i)), .int .i64 (i : Nat), .int .i64 (1 + (i : Int) % 16)] w fun e w' => e = .returned (.bool true) ∧ Sk B w' L (M (i + 1)) ∧ Below B w w' := by
  have hok : okS (1 + (i : Int) % 16) = true := by unfold okS; rw [decide_eq_true_eq]; omega
  have hs : (1 + (i : Int) % 16).toNat = 1 + i % 16 := by omega
  refine (Put_st B L (M i) (kk (200 - i)) i (1 + (i : Int) % 16) w h hB (by rw [M_len]; omega)).mono fun e w' ⟨he, hk, ht⟩ => ⟨by rw [he, hok], ?_, below_of ht hB⟩
  rw [hok, if_pos rfl, hs, put_M i hi] at hk
  exact hk
section
variable (B L : Nat) (w : World) (h : Sk B w L (M 200))
include h
theorem m_get : Calls Try.prog 16 #[LP L, .string (kk 77)] w fun e w' => e = .returned (.tuple #[.int .i64 123, .bool true]) ∧ Below w.heap.size w w' := by
  have := Get_st B L (M 200) w (kk 77) h
  rw [get_M.1, get_M.2] at this
  exact this
theorem m_last : Calls Try.prog 20 #[LP L, .string (kk 77)] w fun e w' => ∃ y : ByteArray, y.size = 76 ∧ e = .returned (.tuple #[.string y, .bool true]) ∧ Below w.heap.size w w' := by
  have := Last_st B L (M 200) w (kk 77) h
  rw [last_M.1, last_M.2] at this
  exact this.mono fun _ _ ⟨he, hb⟩ => ⟨kk 76, kk_size 76, he, hb⟩
theorem m_len : Calls Try.prog 14 #[LP L] w fun e w' => e = .returned (.int .i64 200) ∧ w = w' := by
  have := Len_st B L (M 200) w h
  rw [M_len] at this
  exact this
theorem m_step : Calls Try.prog 24 #[LP L, .int .i64 16] w fun e w' => ∃ A c, e = .returned (.slice A 12 c) ∧ Below w.heap.size w w' := by
  refine (Step_st B L (M 200) w 16 h (by rw [M_len]; omega)).mono fun e w' ⟨u, he, ho, hb⟩ => ?_
  obtain ⟨A, c, hu, _⟩ := Sm.Strs.of_owns ho
  exact ⟨A, c, by rw [he, hu, step_M], hb⟩
end
theorem Nn.below {w w' : World} {v : Value} (h : SkI.Nn w v) (hb : Below w.heap.size w w') : SkI.Nn w' v := by
  rcases h with h | ⟨b, h, hc⟩
  · exact .inl h
  · exact .inr ⟨b, h, (hb.cell (p := ⟨b, 0, none⟩) (World.block_lt_of_cell? w _ hc)).trans hc⟩
def ManyRel (B : Nat) (w : World) (L cnt : Nat) (s : Value) (w1 : World) : Prop := ∃ i, i + cnt = 200 ∧ s = .int .i64 (i : Nat) ∧ Sk B w1 L (M i) ∧ Below B w w1
def NnRel (B : Nat) (w : World) (cnt : Nat) (s24 s25 : Value) (w1 : World) : Prop := ∃ i v, v = s24 ∧ i + cnt = 2 ∧ s25 = .int .i64 (i : Nat) ∧ SkI.Nn w1 v ∧ Below B w w1

set_option maxRecDepth 100000 in
set_option maxHeartbeats 8000000 in
theorem known_walk (w : World) : Calls Try.prog 10 #[] w fun e w' => e = .returned (.bool true) ∧ Below w.heap.size w w' := by
  obtain ⟨B, hBw⟩ : ∃ B, w.heap.size = B := ⟨_, rfl⟩
  have HBW := Lib.hid hBw
  clear hBw
  go_enter Try.func10, Try.ntmps10
  go_wp2_with fail
  refine (ls_new w B (by rw [HBW.out]; exact Nat.le_refl _)).mono ?_
  rintro e w1 ⟨rfl, hs1, hb1⟩
  generalize w.heap.size + 1 = L at *
  have H1 := Lib.hid (And.intro (show Below B w w1 from HBW.out ▸ hb1) hs1)
  have z1 : Hid (B ≤ w1.heap.size) := by show _ ≤ _; have := H1.out.1.size; have := HBW.out; omega
  clear hb1 hs1
  go_wp2_with fail
  refine (ls_get B L _ _ H1.out.2).mono ?_
  rintro e w2 ⟨rfl, hb⟩
  have H2 := Lib.hid (And.intro (H1.out.1.trans (hb.mono z1.out)) (H1.out.2.below hb))
  have z2 : Hid (B ≤ w2.heap.size) := Nat.le_trans z1.out hb.size
  clear hb H1 z1
  go_wp2_with fail
  refine (c_len B L _ H2.out.2).mono ?_
  rintro e w' ⟨rfl, rfl⟩
  go_wp2_with fail
  refine (ls_drop B L _ _ H2.out.2).mono ?_
  rintro e w3 ⟨rfl, hb⟩
  have H3 := Lib.hid (And.intro (H2.out.1.trans (hb.mono z2.out)) (H2.out.2.below hb))
  have z3 : Hid (B ≤ w3.heap.size) := Nat.le_trans z2.out hb.size
  clear hb H2 z2
  go_wp2_with fail
  refine (c_step B L _ H3.out.2).mono ?_
  rintro e w4 ⟨A0, c0, rfl, hb⟩
  have H4 := Lib.hid (And.intro (H3.out.1.trans (hb.mono z3.out)) (H3.out.2.below hb))
  have z4 : Hid (B ≤ w4.heap.size) := Nat.le_trans z3.out hb.size
  clear hb H3 z3
  have HA := Lib.hid (And.intro (H4.out.1.alloc z4.out (.cells #[.string ⟨#[97]⟩] 9)) (H4.out.2.below ((Below.refl _ w4).alloc (Nat.le_refl _) (.cells #[.string ⟨#[97]⟩] 9))))
  have zA : Hid (B ≤ (w4.alloc (.cells #[.string ⟨#[97]⟩] 9)).heap.size) := by show _ ≤ _; have := z4.out; simp; omega
  clear H4 z4
  go_wp2_with fail
  refine (c_put1 B L _ _ _ _ HA.out.2 zA.out).mono ?_
  rintro e w5 ⟨rfl, hs, hb⟩
  have H5 := Lib.hid (And.intro (HA.out.1.trans hb) hs)
  have z5 : Hid (B ≤ w5.heap.size) := Nat.le_trans zA.out hb.size
  clear hb hs HA zA
  have HA := Lib.hid (And.intro (H5.out.1.alloc z5.out (.cells #[.string ⟨#[98]⟩] 9)) (H5.out.2.below ((Below.refl _ w5).alloc (Nat.le_refl _) (.cells #[.string ⟨#[98]⟩] 9))))
  have zA : Hid (B ≤ (w5.alloc (.cells #[.string ⟨#[98]⟩] 9)).heap.size) := by show _ ≤ _; have := z5.out; simp; omega
  clear H5 z5
  go_wp2_with fail
  refine (c_put2 B L _ _ _ _ _ _ _ HA.out.2 zA.out).mono ?_
  rintro e w6 ⟨rfl, hs, hb⟩
  have H6 := Lib.hid (And.intro (HA.out.1.trans hb) hs)
  have z6 : Hid (B ≤ w6.heap.size) := Nat.le_trans zA.out hb.size
  clear hb hs HA zA
  go_wp2_with fail
  refine (c_put3 B L _ _ _ _ _ _ _ H6.out.2 z6.out).mono ?_
  rintro e w7 ⟨rfl, hs, hb⟩
  have H7 := Lib.hid (And.intro (H6.out.1.trans hb) hs)
  have z7 : Hid (B ≤ w7.heap.size) := Nat.le_trans z6.out hb.size
  clear hb hs H6 z6
  go_wp2_with fail
  refine (c_first0 B L _ _ _ _ _ _ _ H7.out.2).mono ?_
  rintro e w8 ⟨rfl, hb⟩
  have H8 := Lib.hid (And.intro (H7.out.1.trans (hb.mono z7.out)) (H7.out.2.below hb))
  have z8 : Hid (B ≤ w8.heap.size) := Nat.le_trans z7.out hb.size
  clear hb H7 z7
  go_wp2_with fail
  refine (c_first1 B L _ _ _ _ _ _ _ H8.out.2).mono ?_
  rintro e w9 ⟨rfl, hb⟩
  have H9 := Lib.hid (And.intro (H8.out.1.trans (hb.mono z8.out)) (H8.out.2.below hb))
  have z9 : Hid (B ≤ w9.heap.size) := Nat.le_trans z8.out hb.size
  clear hb H8 z8
  go_wp2_with fail
  refine (c_last0 B L _ _ _ _ _ _ _ H9.out.2).mono ?_
  rintro e w10 ⟨rfl, hb⟩
  have H10 := Lib.hid (And.intro (H9.out.1.trans (hb.mono z9.out)) (H9.out.2.below hb))
  have z10 : Hid (B ≤ w10.heap.size) := Nat.le_trans z9.out hb.size
  clear hb H9 z9
  go_wp2_with fail
  refine (c_lastm B L _ _ _ _ _ _ _ H10.out.2).mono ?_
  rintro e w11 ⟨rfl, hb⟩
  have H11 := Lib.hid (And.intro (H10.out.1.trans (hb.mono z10.out)) (H10.out.2.below hb))
  have z11 : Hid (B ≤ w11.heap.size) := Nat.le_trans z10.out hb.size
  clear hb H10 z10
  go_wp2_with fail
  refine (c_last1 B L _ _ _ _ _ _ _ H11.out.2).mono ?_
  rintro e w12 ⟨rfl, hb⟩
  have H12 := Lib.hid (And.intro (H11.out.1.trans (hb.mono z11.out)) (H11.out.2.below hb))
  have z12 : Hid (B ≤ w12.heap.size) := Nat.le_trans z11.out hb.size
  clear hb H11 z11
  go_wp2_with fail
  refine (c_step1 B L _ _ _ _ _ _ _ H12.out.2).mono ?_
  rintro e w13 ⟨u, rfl, hu, hul, hb⟩
  have H13 := Lib.hid (And.intro (H12.out.1.trans (hb.mono z12.out)) (H12.out.2.below hb))
  have z13 : Hid (B ≤ w13.heap.size) := Nat.le_trans z12.out hb.size
  have hu2 : Sm.Strs (w13.alloc (.cells #[.string ⟨#[]⟩, .string ⟨#[0]⟩, .string ⟨#[255]⟩] 9)) u [⟨#[]⟩, ⟨#[0]⟩, ⟨#[255]⟩] := hu.keep fun g o hg => World.cell?_alloc_lt _ _ _ (hul g hg)
  have hv2 : Sm.Strs (w13.alloc (.cells #[.string ⟨#[]⟩, .string ⟨#[0]⟩, .string ⟨#[255]⟩] 9)) (.slice (some ⟨w13.heap.size, 0, none⟩) 3 3) [⟨#[]⟩, ⟨#[0]⟩, ⟨#[255]⟩] := Sm.Strs.new w13 [⟨#[]⟩, ⟨#[0]⟩, ⟨#[255]⟩] _
  have HU := Lib.hid (And.intro hu2 hv2)
  clear hb H12 z12 hu hul hu2 hv2
  go_wp2_with fail
  refine (Sm.Same_yes _ _ _ _ HU.out.1 HU.out.2 (by simp)).mono ?_
  rintro e w' ⟨rfl, q, rfl⟩
  obtain ⟨w14, hw⟩ : ∃ w14, (w13.alloc (.cells #[.string ⟨#[]⟩, .string ⟨#[0]⟩, .string ⟨#[255]⟩] 9)).drewN q = w14 := ⟨_, rfl⟩
  rw [hw]
  have hb : Below w13.heap.size w13 w14 := by rw [← hw]; exact below_drewN' ((Below.refl _ _).alloc (Nat.le_refl _) _) q
  have H14 := Lib.hid (And.intro (H13.out.1.trans (hb.mono z13.out)) (H13.out.2.below hb))
  have z14 : Hid (B ≤ w14.heap.size) := Nat.le_trans z13.out hb.size
  clear hb H13 z13 hw HU
  go_wp2_with fail
  refine (c_step16 B L _ _ _ _ _ _ _ H14.out.2).mono ?_
  rintro e w15 ⟨u, rfl, hu, hul, hb⟩
  have H15 := Lib.hid (And.intro (H14.out.1.trans (hb.mono z14.out)) (H14.out.2.below hb))
  have z15 : Hid (B ≤ w15.heap.size) := Nat.le_trans z14.out hb.size
  have hu2 : Sm.Strs (w15.alloc (.cells #[.string ⟨#[]⟩] 9)) u [⟨#[]⟩] := hu.keep fun g o hg => World.cell?_alloc_lt _ _ _ (hul g hg)
  have hv2 : Sm.Strs (w15.alloc (.cells #[.string ⟨#[]⟩] 9)) (.slice (some ⟨w15.heap.size, 0, none⟩) 1 1) [⟨#[]⟩] := Sm.Strs.new w15 [⟨#[]⟩] _
  have HU := Lib.hid (And.intro hu2 hv2)
  clear hb H14 z14 hu hul hu2 hv2
  go_wp2_with fail
  refine (Sm.Same_yes _ _ _ _ HU.out.1 HU.out.2 (by simp)).mono ?_
  rintro e w' ⟨rfl, q, rfl⟩
  obtain ⟨w16, hw⟩ : ∃ w16, (w15.alloc (.cells #[.string ⟨#[]⟩] 9)).drewN q = w16 := ⟨_, rfl⟩
  rw [hw]
  have hb : Below w15.heap.size w15 w16 := by rw [← hw]; exact below_drewN' ((Below.refl _ _).alloc (Nat.le_refl _) _) q
  have H16 := Lib.hid (And.intro (H15.out.1.trans (hb.mono z15.out)) (H15.out.2.below hb))
  have z16 : Hid (B ≤ w16.heap.size) := Nat.le_trans z15.out hb.size
  clear hb H15 z15 hw HU
  go_wp2_with fail
  refine (c_step17 B L _ _ _ _ _ _ _ H16.out.2).mono ?_
  rintro e w' ⟨rfl, rfl⟩
  go_wp2_with fail
  refine (New_st w16 B z16.out).mono ?_
  rintro e wm ⟨rfl, hb, hsm⟩
  generalize w16.heap.size + 1 = N at *
  have HM := Lib.hid (And.intro (H16.out.1.trans (hb.mono z16.out)) hsm)
  have zM : Hid (B ≤ wm.heap.size) := Nat.le_trans z16.out hb.size
  clear hb hsm H16 z16
  go_wp2
  go_loopg [18] 200 (fun cnt s w1 => ManyRel B w N cnt s w1)
  case atStart => exact ⟨0, rfl, rfl, HM.out.2, HM.out.1⟩
  case round =>
    obtain ⟨i, hi, rfl, hsk, hbel⟩ := hrel
    have HI := Lib.hid hi
    have HS := Lib.hid (And.intro hbel hsk)
    have zS : Hid (B ≤ wr.heap.size) := by show _ ≤ _; have := HBW.out; have := hbel.size; omega
    clear hsk hbel
    by_cases hlt : i < 200
    · have b1 : (i : Int) < 200 := by omega
      have b2 : (0 : Int) ≤ (i : Int) := by omega
      have hrem : Int.tmod (i : Int) 16 = (i : Int) % 16 := Int.tmod_eq_emod_of_nonneg (by omega)
      have hw1 : IntKind.i64.wrap (200 - (i : Int)) = 200 - (i : Int) := IntWalk.i64_in _ (by omega)
      have hw2 : IntKind.i64.wrap ((i : Int) % 16) = (i : Int) % 16 := IntWalk.i64_in _ (by omega)
      have hw3 : IntKind.i64.wrap (1 + (i : Int) % 16) = 1 + (i : Int) % 16 := IntWalk.i64_in _ (by omega)
      have HR := Lib.hid (repeat_k (200 - i) (200 - (i : Int)) (by omega) (by omega) wr)
      clear hi
      go_wp2_with fail
      refine HR.out.mono ?_
      rintro e w5 ⟨rfl, hb⟩
      have HP := Lib.hid (put_many B N i w5 hlt (HS.out.2.below hb) (Nat.le_trans zS.out hb.size))
      have HX := Lib.hid (HS.out.1.trans (hb.mono zS.out))
      clear hb
      generalize kk (200 - i) = key at *
      go_wp2_with fail
      refine HP.out.mono ?_
      rintro e w6 ⟨rfl, hs6, hb6⟩
      have HY := Lib.hid (And.intro hs6 (HX.out.trans hb6))
      clear hs6 hb6
      go_wp2
      go_roundg (200 - (i + 1))
      case measure => have := HI.out; omega
      case rel => exact ⟨i + 1, by omega, by simp, HY.out.1, HY.out.2⟩
    · have ek : decide ((i : Int) < 200) = false := by simp; omega
      have ek2 : decide (i < 200) = false := by simp; omega
      obtain rfl : i = 200 := by omega
      clear hi hlt
      obtain ⟨w1, hww⟩ : ∃ w1, w1 = wr := ⟨_, rfl⟩
      subst hww
      have HR := Lib.hid (repeat_k 77 77 rfl (by omega))
      generalize hky : kk 77 = key at HR
      have HKY := Lib.hid hky
      clear hky
      go_wp2_with fail
      refine (HR.out w1).mono ?_
      rintro e w2 ⟨rfl, hb⟩
      have T2 := Lib.hid (And.intro (HS.out.1.trans (hb.mono zS.out)) (HS.out.2.below hb))
      have z2 : Hid (B ≤ w2.heap.size) := Nat.le_trans zS.out hb.size
      have HG := Lib.hid (m_get B N w2 T2.out.2)
      rw [HKY.out] at HG
      clear hb
      go_wp2_with fail
      refine HG.out.mono ?_
      rintro e w3 ⟨rfl, hb⟩
      have T3 := Lib.hid (And.intro (T2.out.1.trans (hb.mono z2.out)) (T2.out.2.below hb))
      have z3 : Hid (B ≤ w3.heap.size) := Nat.le_trans z2.out hb.size
      clear hb
      go_wp2_with fail
      refine (HR.out w3).mono ?_
      rintro e w4 ⟨rfl, hb⟩
      have T4 := Lib.hid (And.intro (T3.out.1.trans (hb.mono z3.out)) (T3.out.2.below hb))
      have z4 : Hid (B ≤ w4.heap.size) := Nat.le_trans z3.out hb.size
      have HL := Lib.hid (m_last B N w4 T4.out.2)
      rw [HKY.out] at HL
      clear hb
      go_wp2_with fail
      refine HL.out.mono ?_
      rintro e w5 ⟨y, hy, rfl, hb⟩
      have hyI : (y.size : Int) = 76 := by omega
      have T5 := Lib.hid (And.intro (T4.out.1.trans (hb.mono z4.out)) (T4.out.2.below hb))
      have z5 : Hid (B ≤ w5.heap.size) := Nat.le_trans z4.out hb.size
      clear hb
      go_wp2_with fail
      refine (m_len B N w5 T5.out.2).mono ?_
      rintro e w' ⟨rfl, rfl⟩
      go_wp2_with fail
      refine (m_step B N w5 T5.out.2).mono ?_
      rintro e w6 ⟨A6, c6, rfl, hb⟩
      have T6 := Lib.hid (T5.out.1.trans (hb.mono z5.out))
      clear hb T2 T3 T4 T5 z2 z3 z4 z5 HG HL
      go_wp2
      go_loopg [24, 25] 2 (fun cnt s24 s25 w1 => NnRel B w cnt s24 s25 w1)
      case atStart => exact ⟨0, _, rfl, rfl, rfl, .inl rfl, T6.out⟩
      case round =>
        obtain ⟨j, v, rfl, hj, rfl, hnn, hbel⟩ := hrel
        have HJ := Lib.hid hj
        have zj : Hid (B ≤ wr.heap.size) := by show _ ≤ _; have := HBW.out; have := hbel.size; omega
        have U0 := Lib.hid (And.intro hbel hnn)
        obtain ⟨x0, hww⟩ : ∃ x0, x0 = wr := ⟨_, rfl⟩
        subst hww
        clear hnn hbel
        by_cases hlt : j < 2
        · have b1 : (j : Int) < 2 := by omega
          clear hj
          go_wp2_with fail
          refine (SkI.nn_Get v x0 U0.out.2 _).mono ?_
          rintro e x1 ⟨rfl, hb⟩
          have U1 := Lib.hid (And.intro (U0.out.1.trans (hb.mono zj.out)) (Nn.below U0.out.2 hb))
          have y1 : Hid (B ≤ x1.heap.size) := Nat.le_trans zj.out hb.size
          clear hb
          go_wp2_with fail
          refine (SkI.nn_First v x1 U1.out.2 _).mono ?_
          rintro e x2 ⟨rfl, hb⟩
          have U2 := Lib.hid (And.intro (U1.out.1.trans (hb.mono y1.out)) (Nn.below U1.out.2 hb))
          have y2 : Hid (B ≤ x2.heap.size) := Nat.le_trans y1.out hb.size
          clear hb
          go_wp2_with fail
          refine (SkI.nn_Last v x2 U2.out.2 _).mono ?_
          rintro e x3 ⟨rfl, hb⟩
          have U3 := Lib.hid (And.intro (U2.out.1.trans (hb.mono y2.out)) (Nn.below U2.out.2 hb))
          have y3 : Hid (B ≤ x3.heap.size) := Nat.le_trans y2.out hb.size
          clear hb
          go_wp2_with fail
          refine (SkI.nn_Put v x3 U3.out.2 _ _ _).mono ?_
          rintro e x4 ⟨rfl, hb⟩
          have U4 := Lib.hid (And.intro (U3.out.1.trans (hb.mono y3.out)) (Nn.below U3.out.2 hb))
          have y4 : Hid (B ≤ x4.heap.size) := Nat.le_trans y3.out hb.size
          clear hb
          go_wp2_with fail
          refine (SkI.nn_Drop v x4 U4.out.2 _).mono ?_
          rintro e x5 ⟨rfl, hb⟩
          have U5 := Lib.hid (And.intro (U4.out.1.trans (hb.mono y4.out)) (Nn.below U4.out.2 hb))
          have y5 : Hid (B ≤ x5.heap.size) := Nat.le_trans y4.out hb.size
          clear hb
          go_wp2_with fail
          refine (SkI.nn_Len v x5 U5.out.2).mono ?_
          rintro e x6 ⟨rfl, hb⟩
          have U6 := Lib.hid (And.intro (U5.out.1.trans (hb.mono y5.out)) (Nn.below U5.out.2 hb))
          have y6 : Hid (B ≤ x6.heap.size) := Nat.le_trans y5.out hb.size
          clear hb
          go_wp2_with fail
          refine (SkI.nn_Steps v x6 U6.out.2 _).mono ?_
          rintro e x7 ⟨rfl, hb⟩
          have U7 := Lib.hid (And.intro (U6.out.1.trans (hb.mono y6.out)) (Nn.below U6.out.2 hb))
          have y7 : Hid (B ≤ x7.heap.size) := Nat.le_trans y6.out hb.size
          clear hb
          go_wp2_with fail
          refine (SkI.nn_Step v x7 U7.out.2 _).mono ?_
          rintro e x8 ⟨rfl, hb⟩
          have U8 := Lib.hid (And.intro (U7.out.1.trans (hb.mono y7.out)) (Nn.below U7.out.2 hb))
          have y8 : Hid (B ≤ x8.heap.size) := Nat.le_trans y7.out hb.size
          clear hb
          go_wp2
          go_roundg (2 - (j + 1))
          case measure => have := HJ.out; omega
          case rel => exact ⟨j + 1, _, rfl, by omega, by simp, .inr ⟨_, rfl, by rw [World.cell?_alloc_new]; rfl⟩, U8.out.1.alloc y8.out _⟩
        · have ek3 : decide ((j : Int) < 2) = false := by simp; omega
          have ek4 : decide (j < 2) = false := by simp; omega
          clear hj hlt
          go_wp2_with fail
          refine (Wk.works_any _).mono ?_
          rintro e w9 ⟨rfl, hb⟩
          have HF : Hid (Below w.heap.size w w9) := by rw [HBW.out]; exact U0.out.1.trans (hb.mono zj.out)
          clear hb
          go_wp2
          go_ret
          exact ⟨rfl, HF.out⟩

end Kn
end Go.Proofs.Ytphfedkfbehigaa
