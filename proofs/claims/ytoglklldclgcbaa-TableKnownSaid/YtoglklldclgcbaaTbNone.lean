/-
  Walks: a table that is none.
-/
import Derived.Test.YtoglklldclgcbaaTbMoves
namespace Go.Proofs.Ytoglklldclgcbaa
open Go.RowKit Go.Shelf Sk
namespace Tb
attribute [local go_sem] Oper.semAt_some

/-- no table: none at all, or one without a list -/
def NoneV (w : World) (v : Option Addr) : Prop := v = none ∨ ∃ t, v = some ⟨t, 0, none⟩ ∧ w.cell? ⟨t, 0, none⟩ = some (.pointer none)
theorem NoneV.below {w w' : World} {v : Option Addr} (h : NoneV w v) (hb : Below w.heap.size w w') : NoneV w' v := by
  rcases h with h | ⟨t, h, hc⟩
  · exact .inl h
  · exact .inr ⟨t, h, (hb.cell (p := ⟨t, 0, none⟩) (World.block_lt_of_cell? w _ hc)).trans hc⟩

section
variable {w : World} {v : Option Addr}
set_option maxHeartbeats 400000 in
theorem none_no (h : NoneV w v) : Calls Try.prog 35 #[.pointer v] w fun e w' => e = .returned (.bool true) ∧ w = w' := by
  rcases h with rfl | ⟨t, rfl, c0⟩
  · go_enter Try.func35, Try.ntmps35
    go_wp2
    go_ret
    exact ⟨rfl, rfl⟩
  · go_enter Try.func35, Try.ntmps35
    go_wp2
    go_ret
    exact ⟨rfl, rfl⟩
set_option maxHeartbeats 400000 in
theorem Get_no (h : NoneV w v) (key : ByteArray) : Calls Try.prog 21 #[.pointer v, .string key] w fun e w' => e = .returned (.tuple #[.string ⟨#[]⟩, .bool false]) ∧ w = w' := by
  have H := Lib.hid (none_no h)
  clear h
  go_enter Try.func21, Try.ntmps21
  go_wp2_with fail
  refine H.out.mono ?_
  rintro e w' ⟨rfl, rfl⟩
  go_wp2
  go_ret2
  exact ⟨rfl, rfl⟩
set_option maxHeartbeats 400000 in
theorem Len_no (h : NoneV w v) : Calls Try.prog 16 #[.pointer v] w fun e w' => e = .returned (.int .i64 0) ∧ w = w' := by
  have H := Lib.hid (none_no h)
  clear h
  go_enter Try.func16, Try.ntmps16
  go_wp2_with fail
  refine H.out.mono ?_
  rintro e w' ⟨rfl, rfl⟩
  go_wp2
  go_ret
  exact ⟨rfl, rfl⟩
set_option maxHeartbeats 400000 in
theorem Apply_no (h : NoneV w v) (A : Option Addr) (len cap : Nat) : Calls Try.prog 14 #[.pointer v, .slice A len cap] w fun e w' => e = .returned (.int .i64 1) ∧ w = w' := by
  have H := Lib.hid (none_no h)
  clear h
  go_enter Try.func14, Try.ntmps14
  go_wp2_with fail
  refine H.out.mono ?_
  rintro e w' ⟨rfl, rfl⟩
  go_wp2
  go_ret
  exact ⟨rfl, rfl⟩
set_option maxHeartbeats 400000 in
theorem Copy_no (h : NoneV w v) : Calls Try.prog 30 #[.pointer v] w fun e w' => e = .returned (.pointer none) ∧ Below w.heap.size w w' := by
  refine (callsIn_wide (n := 5)).1 ?_
  refine callsIn_of_wp_marks Try.func30 rfl trivial ?_ rfl
  simp only [Try.ntmps30, List.size_toArray, List.length_cons, List.length_nil, Nat.reduceAdd, Nat.reduceSub, Array.replicate_succ, Array.replicate_zero, List.push_toArray, List.append_toArray, List.nil_append, List.cons_append]
  have hb0 : Below w.heap.size w (w.alloc (.cells #[.pointer v] 23)) := (Below.refl _ w).alloc (Nat.le_refl _) _
  have H := Lib.hid (And.intro hb0 (none_no (h.below hb0)))
  clear h hb0
  gi_wp2_with (refine ⟨trivial, ?_⟩; gi_at_call 35; refine (callsIn_wide.2 H.out.2).mono ?_; rintro e w' ⟨rfl, rfl⟩)
  exact ⟨_, results_tmp rfl _ _ _, rfl, H.out.1⟩
set_option maxHeartbeats 400000 in
theorem All_v (v : Option Addr) (frm tt : ByteArray) (w : World) :
    Calls Try.prog 26 #[.pointer v, .string frm, .string tt] w fun e w' => e = .returned (.func (.func 43) #[] #[.pointer (some ⟨w.heap.size, 0, none⟩), .pointer (some ⟨w.heap.size + 1, 0, none⟩), .pointer (some ⟨w.heap.size + 2, 0, none⟩)]) ∧
      w' = ((w.alloc (.cells #[.pointer v] 23)).alloc (.cells #[.string frm] 9)).alloc (.cells #[.string tt] 9) := by
  go_enter Try.func26, Try.ntmps26
  go_wp2
  go_ret
  exact ⟨rfl, rfl⟩
end

theorem laid_v (w : World) (v : Option Addr) (frm tt : ByteArray) (W : World) (h : W = ((w.alloc (.cells #[.pointer v] 23)).alloc (.cells #[.string frm] 9)).alloc (.cells #[.string tt] 9)) : Below w.heap.size w W ∧ W.cell? ⟨w.heap.size, 0, none⟩ = some (.pointer v) := by
  subst h
  exact ⟨(((Below.refl _ w).alloc (Nat.le_refl _) _).alloc (by simp) _).alloc (by simp; omega) _, by go_simp⟩
theorem All_vx (v : Option Addr) (frm tt : ByteArray) (w : World) :
    Calls Try.prog 26 #[.pointer v, .string frm, .string tt] w fun e w' => ∃ b, e = .returned (.func (.func 43) #[] #[.pointer (some ⟨b, 0, none⟩), .pointer (some ⟨b + 1, 0, none⟩), .pointer (some ⟨b + 2, 0, none⟩)]) ∧
      (b = w.heap.size ∧ Below w.heap.size w w' ∧ w'.cell? ⟨b, 0, none⟩ = some (.pointer v)) :=
  (All_v v frm tt w).mono fun _ _ ⟨he, hw⟩ => ⟨_, he, rfl, laid_v w v frm tt _ hw⟩
set_option maxHeartbeats 400000 in
theorem Back_vx (v : Option Addr) (frm tt : ByteArray) (w : World) :
    Calls Try.prog 29 #[.pointer v, .string frm, .string tt] w fun e w' => ∃ b, e = .returned (.func (.func 45) #[] #[.pointer (some ⟨b, 0, none⟩), .pointer (some ⟨b + 2, 0, none⟩), .pointer (some ⟨b + 1, 0, none⟩)]) ∧
      (b = w.heap.size ∧ Below w.heap.size w w' ∧ w'.cell? ⟨b, 0, none⟩ = some (.pointer v)) := by
  go_enter Try.func29, Try.ntmps29
  go_wp2
  go_ret
  exact ⟨_, rfl, rfl, laid_v w v frm tt _ rfl⟩
theorem All1_no (n : Nat) (hn : 1 ≤ n) (l bt bf bo : Nat) (v : Option Addr) (W : World) (h : NoneV W v) (hb : W.cell? ⟨bt, 0, none⟩ = some (.pointer v)) :
    CallsIn Fence.wide n Try.prog 43 (#[.func (.yield l) #[] #[]] ++ #[.pointer (some ⟨bt, 0, none⟩), .pointer (some ⟨bf, 0, none⟩), .pointer (some ⟨bo, 0, none⟩)]) W fun e W' => (∃ u, e = .returned u) ∧ W = W' := by
  refine callsIn_of_wp Try.func43 rfl trivial ?_ rfl
  simp only [Try.ntmps43, List.size_toArray, List.length_cons, List.length_nil, Nat.reduceAdd, Nat.reduceSub, Array.replicate_succ, Array.replicate_zero, List.push_toArray, List.append_toArray, List.nil_append, List.cons_append]
  have H := Lib.hid (none_no h)
  clear h
  gi_wp2_with (refine ⟨trivial, ?_⟩; gi_at_call 35; refine (callsIn_wide.2 H.out).mono ?_; rintro e w' ⟨rfl, rfl⟩)
  refine bodyPost_ret (results_none rfl _ _ _) rfl ?_
  exact ⟨⟨_, rfl⟩, rfl⟩
theorem All_noseq (n : Nat) (hn : 1 ≤ n) (bt bf bo : Nat) (v : Option Addr) : SeqNext n 43 #[.pointer (some ⟨bt, 0, none⟩), .pointer (some ⟨bf, 0, none⟩), .pointer (some ⟨bo, 0, none⟩)] (fun _ W => NoneV W v ∧ W.cell? ⟨bt, 0, none⟩ = some (.pointer v)) (fun _ => none) :=
  fun l _ _ W _ hT _ h0 => (All1_no n hn l bt bf bo v W (hT [] W h0).1 (hT [] W h0).2).mono fun _ _ ⟨he, hw⟩ => ⟨he, .inl ⟨[], rfl, hw ▸ h0⟩⟩

theorem Back1_no (n : Nat) (hn : 1 ≤ n) (l bt bf bo : Nat) (v : Option Addr) (W : World) (h : NoneV W v) (hb : W.cell? ⟨bt, 0, none⟩ = some (.pointer v)) :
    CallsIn Fence.wide n Try.prog 45 (#[.func (.yield l) #[] #[]] ++ #[.pointer (some ⟨bt, 0, none⟩), .pointer (some ⟨bo, 0, none⟩), .pointer (some ⟨bf, 0, none⟩)]) W fun e W' => (∃ u, e = .returned u) ∧ W = W' := by
  refine callsIn_of_wp Try.func45 rfl trivial ?_ rfl
  simp only [Try.ntmps45, List.size_toArray, List.length_cons, List.length_nil, Nat.reduceAdd, Nat.reduceSub, Array.replicate_succ, Array.replicate_zero, List.push_toArray, List.append_toArray, List.nil_append, List.cons_append]
  have H := Lib.hid (none_no h)
  clear h
  gi_wp2_with (refine ⟨trivial, ?_⟩; gi_at_call 35; refine (callsIn_wide.2 H.out).mono ?_; rintro e w' ⟨rfl, rfl⟩)
  refine bodyPost_ret (results_none rfl _ _ _) rfl ?_
  exact ⟨⟨_, rfl⟩, rfl⟩
theorem Back_noseq (n : Nat) (hn : 1 ≤ n) (bt bf bo : Nat) (v : Option Addr) : SeqNext n 45 #[.pointer (some ⟨bt, 0, none⟩), .pointer (some ⟨bo, 0, none⟩), .pointer (some ⟨bf, 0, none⟩)] (fun _ W => NoneV W v ∧ W.cell? ⟨bt, 0, none⟩ = some (.pointer v)) (fun _ => none) :=
  fun l _ _ W _ hT _ h0 => (Back1_no n hn l bt bf bo v W (hT [] W h0).1 (hT [] W h0).2).mono fun _ _ ⟨he, hw⟩ => ⟨he, .inl ⟨[], rfl, hw ▸ h0⟩⟩

set_option maxRecDepth 100000 in
set_option maxHeartbeats 2000000 in
theorem Rows_no {w : World} {v : Option Addr} (h : NoneV w v) :
    Calls Try.prog 18 #[.pointer v] w fun e w' => e = .returned (.slice none 0 0) ∧ Below w.heap.size w w' := by
  refine (callsIn_wide (n := 5)).1 ?_
  refine callsIn_of_wp_marks Try.func18 rfl trivial ?_ rfl
  simp only [Try.ntmps18, List.size_toArray, List.length_cons, List.length_nil, Nat.reduceAdd, Nat.reduceSub, Array.replicate_succ, Array.replicate_zero, List.push_toArray, List.append_toArray, List.nil_append, List.cons_append]
  obtain ⟨s0, hs0⟩ : ∃ s, w.heap.size = s := ⟨_, rfl⟩
  have HA := Lib.hid (All_vx v ⟨#[]⟩ ⟨#[]⟩ (w.alloc (.cells #[.slice none 0 0] 33)))
  gi_wp2_with (refine ⟨trivial, ?_⟩; gi_at_call 26; refine (callsIn_wide.2 HA.out).mono ?_; rintro e W0 ⟨b, rfl, hW0⟩; have HL := Lib.hid hW0; clear hW0)
  have hbox : Boxed (w.alloc (.cells #[.slice none 0 0] 33)) s0 33 (.slice none 0 0) := by rw [← hs0]; exact Boxed.new w _ _
  have hsz : (w.alloc (.cells #[.slice none 0 0] 33)).heap.size = s0 + 1 := by rw [← hs0]; simp
  obtain rfl : b = s0 + 1 := HL.out.1.trans hsz
  have hb0 : Below w.heap.size w W0 := ((Below.refl _ w).alloc (Nat.le_refl _) _).trans (HL.out.2.1.mono (by simp))
  have hbx : Boxed W0 s0 33 (.slice none 0 0) := (HL.out.2.1.block s0 (by rw [hsz]; omega)).trans hbox
  have hct : W0.cell? ⟨s0 + 1, 0, none⟩ = some (.pointer v) := HL.out.2.2
  have HX := Lib.hid (And.intro hb0 (And.intro hbx (And.intro hct (h.below hb0))))
  clear HA hbox HL hsz hb0 hbx hct h
  refine range_next (by omega) (gf := 43) (lb := #[.pointer (some ⟨s0 + 1, 0, none⟩), .pointer (some ⟨s0 + 1 + 1, 0, none⟩), .pointer (some ⟨s0 + 1 + 2, 0, none⟩)]) (All_noseq 4 (by omega) (s0 + 1) (s0 + 1 + 1) (s0 + 1 + 2) v) rfl (enters_of Try.func43 (by kernel_rfl) rfl) rfl
    (fun _ W => Below W0.heap.size W0 W) (fun _ _ _ => False) (ownFrom_below (Nat.le_refl _) (Nat.le_refl _)) (fun _ _ _ _ _ hs _ _ => hs)
    (fun _ W hb => ⟨HX.out.2.2.2.below hb, (hb.cell (p := ⟨s0 + 1, 0, none⟩) (World.block_lt_of_cell? _ _ HX.out.2.2.1)).trans HX.out.2.2.1⟩) (Below.refl _ _) ?a1 ?assign ?body ?done ?stop
  case assign =>
    intro l x W K hK
    unfold encs
    gi_wp2
    exact hK
  case body =>
    rintro l pre x W _ hx
    cases hx
  case done =>
    rintro D ys W hD _ hi hK
    have hc := (boxed_turns HX.out.2.1 (Turns.of_below (S := fun _ => False) hi) (fun h => h)).cell
    have HB := Lib.hid (And.intro hi hD)
    clear hi hD
    gi_wp2
    refine ⟨by simp, .inl ⟨_, _, rfl, run_takeDeferred hK, ?_⟩⟩
    have hfin : Below w.heap.size w (W.putObj D (.deferred none)) := (HX.out.1.trans (HB.out.1.mono HX.out.1.size)).trans (belowK_b (w := w) (Nat.le_refl _) W D _ _ (Nat.le_trans HX.out.1.size HB.out.2) hK rfl rfl)
    rw [hs0] at hfin
    exact ⟨_, results_tmp rfl _ _ _, rfl, hfin⟩
  case stop =>
    rintro D c pre W _ h _
    exact h.elim

set_option maxRecDepth 100000 in
set_option maxHeartbeats 2000000 in
theorem ranged_no {w : World} {v : Option Addr} (h : NoneV w v) (frm tt : ByteArray) :
    Calls Try.prog 24 #[.pointer v, .string frm, .string tt, .bool false] w fun e w' => e = .returned (.slice none 0 0) ∧ Below w.heap.size w w' := by
  have hrun := run_nf
  refine (callsIn_wide (n := 5)).1 ?_
  refine callsIn_of_wp_marks Try.func24 rfl trivial ?_ rfl
  simp only [Try.ntmps24, List.size_toArray, List.length_cons, List.length_nil, Nat.reduceAdd, Nat.reduceSub, Array.replicate_succ, Array.replicate_zero, List.push_toArray, List.append_toArray, List.nil_append, List.cons_append]
  have HA1 := callsIn_wide (n := 4).2 (All_vx v frm tt w)
  have HA2 := fun W1 => callsIn_wide (n := 4).2 (Back_vx v frm tt W1)
  have HA3 := fun W1 => callsIn_wide (n := 4).2 (All_vx v frm tt W1)
  gi_wp2_with (first
    | (refine ⟨trivial, ?_⟩; gi_at_call 26; refine HA1.mono ?_; clear HA1; rintro e W1 ⟨b1, rfl, h1⟩; have H1 := Lib.hid h1; clear h1)
    | (refine ⟨trivial, ?_⟩; gi_at_call 29; refine (HA2 _).mono ?_; clear HA2; rintro e W2 ⟨b2, rfl, h2⟩; have H2 := Lib.hid h2; clear h2)
    | (refine ⟨trivial, ?_⟩; gi_at_call 26; refine (HA3 _).mono ?_; clear HA3; rintro e W0 ⟨b3, rfl, h3⟩; have HL := Lib.hid h3; clear h3))
  obtain ⟨s, hs⟩ : ∃ s, W2.heap.size = s := ⟨_, rfl⟩
  have hbox : Boxed (W2.alloc (.cells #[.slice none 0 0] 33)) s 33 (.slice none 0 0) := by rw [← hs]; exact Boxed.new W2 _ _
  have hsz : (W2.alloc (.cells #[.slice none 0 0] 33)).heap.size = s + 1 := by rw [← hs]; simp
  obtain rfl : b3 = s + 1 := HL.out.1.trans hsz
  have h12 : Below w.heap.size w W2 := H1.out.2.1.trans (H2.out.2.1.mono H1.out.2.1.size)
  have hb0 : Below w.heap.size w W0 := h12.trans ((((Below.refl _ W2).alloc (Nat.le_refl _) _).trans (HL.out.2.1.mono (by simp))).mono h12.size)
  have hbx : Boxed W0 s 33 (.slice none 0 0) := (HL.out.2.1.block s (by rw [hsz]; omega)).trans hbox
  have hct : W0.cell? ⟨s + 1, 0, none⟩ = some (.pointer v) := HL.out.2.2
  rw [hs]
  have HX := Lib.hid (And.intro hb0 (And.intro hbx (And.intro hct (h.below hb0))))
  clear hbox HL hsz hb0 hbx hct h H1 H2 h12 hs hrun
  refine range_next (by omega) (gf := 43) (lb := #[.pointer (some ⟨s + 1, 0, none⟩), .pointer (some ⟨s + 1 + 1, 0, none⟩), .pointer (some ⟨s + 1 + 2, 0, none⟩)]) (All_noseq 4 (by omega) (s + 1) (s + 1 + 1) (s + 1 + 2) v) rfl (enters_of Try.func43 (by kernel_rfl) rfl) rfl
    (fun _ W => Below W0.heap.size W0 W) (fun _ _ _ => False) (ownFrom_below (Nat.le_refl _) (Nat.le_refl _)) (fun _ _ _ _ _ hs _ _ => hs)
    (fun _ W hb => ⟨HX.out.2.2.2.below hb, (hb.cell (p := ⟨s + 1, 0, none⟩) (World.block_lt_of_cell? _ _ HX.out.2.2.1)).trans HX.out.2.2.1⟩) (Below.refl _ _) ?a1 ?assign ?body ?done ?stop
  case assign =>
    intro l x W K hK
    unfold encs
    gi_wp2
    exact hK
  case body =>
    rintro l pre x W _ hx
    cases hx
  case done =>
    rintro D ys W hD _ hi hK
    have hc := (boxed_turns HX.out.2.1 (Turns.of_below (S := fun _ => False) hi) (fun h => h)).cell
    have HB := Lib.hid (And.intro hi hD)
    clear hi hD
    gi_wp2
    refine ⟨by simp, .inl ⟨_, _, rfl, run_takeDeferred hK, ?_⟩⟩
    exact ⟨_, results_tmp rfl _ _ _, rfl, (HX.out.1.trans (HB.out.1.mono HX.out.1.size)).trans (belowK_b (w := w) (Nat.le_refl _) W D _ _ (Nat.le_trans HX.out.1.size HB.out.2) hK rfl rfl)⟩
  case stop =>
    rintro D c pre W _ h _
    exact h.elim

set_option maxRecDepth 100000 in
set_option maxHeartbeats 2000000 in
theorem ranged_nob {w : World} {v : Option Addr} (h : NoneV w v) (frm tt : ByteArray) :
    Calls Try.prog 24 #[.pointer v, .string frm, .string tt, .bool true] w fun e w' => e = .returned (.slice none 0 0) ∧ Below w.heap.size w w' := by
  have hrun := run_nf
  refine (callsIn_wide (n := 5)).1 ?_
  refine callsIn_of_wp_marks Try.func24 rfl trivial ?_ rfl
  simp only [Try.ntmps24, List.size_toArray, List.length_cons, List.length_nil, Nat.reduceAdd, Nat.reduceSub, Array.replicate_succ, Array.replicate_zero, List.push_toArray, List.append_toArray, List.nil_append, List.cons_append]
  have HA1 := callsIn_wide (n := 4).2 (All_vx v frm tt w)
  have HA2 := fun W1 => callsIn_wide (n := 4).2 (Back_vx v frm tt W1)
  have HA3 := fun W1 => callsIn_wide (n := 4).2 (Back_vx v frm tt W1)
  gi_wp2_with (first
    | (refine ⟨trivial, ?_⟩; gi_at_call 26; refine HA1.mono ?_; clear HA1; rintro e W1 ⟨b1, rfl, h1⟩; have H1 := Lib.hid h1; clear h1)
    | (refine ⟨trivial, ?_⟩; gi_at_call 29; refine (HA2 _).mono ?_; clear HA2; rintro e W2 ⟨b2, rfl, h2⟩; have H2 := Lib.hid h2; clear h2)
    | (refine ⟨trivial, ?_⟩; gi_at_call 29; refine (HA3 _).mono ?_; clear HA3; rintro e W0 ⟨b3, rfl, h3⟩; have HL := Lib.hid h3; clear h3))
  obtain ⟨s, hs⟩ : ∃ s, W2.heap.size = s := ⟨_, rfl⟩
  have hbox : Boxed (W2.alloc (.cells #[.slice none 0 0] 33)) s 33 (.slice none 0 0) := by rw [← hs]; exact Boxed.new W2 _ _
  have hsz : (W2.alloc (.cells #[.slice none 0 0] 33)).heap.size = s + 1 := by rw [← hs]; simp
  obtain rfl : b3 = s + 1 := HL.out.1.trans hsz
  have h12 : Below w.heap.size w W2 := H1.out.2.1.trans (H2.out.2.1.mono H1.out.2.1.size)
  have hb0 : Below w.heap.size w W0 := h12.trans ((((Below.refl _ W2).alloc (Nat.le_refl _) _).trans (HL.out.2.1.mono (by simp))).mono h12.size)
  have hbx : Boxed W0 s 33 (.slice none 0 0) := (HL.out.2.1.block s (by rw [hsz]; omega)).trans hbox
  have hct : W0.cell? ⟨s + 1, 0, none⟩ = some (.pointer v) := HL.out.2.2
  rw [hs]
  have HX := Lib.hid (And.intro hb0 (And.intro hbx (And.intro hct (h.below hb0))))
  clear hbox HL hsz hb0 hbx hct h H1 H2 h12 hs hrun
  refine range_next (by omega) (gf := 45) (lb := #[.pointer (some ⟨s + 1, 0, none⟩), .pointer (some ⟨s + 1 + 2, 0, none⟩), .pointer (some ⟨s + 1 + 1, 0, none⟩)]) (Back_noseq 4 (by omega) (s + 1) (s + 1 + 1) (s + 1 + 2) v) rfl (enters_of Try.func45 (by kernel_rfl) rfl) rfl
    (fun _ W => Below W0.heap.size W0 W) (fun _ _ _ => False) (ownFrom_below (Nat.le_refl _) (Nat.le_refl _)) (fun _ _ _ _ _ hs _ _ => hs)
    (fun _ W hb => ⟨HX.out.2.2.2.below hb, (hb.cell (p := ⟨s + 1, 0, none⟩) (World.block_lt_of_cell? _ _ HX.out.2.2.1)).trans HX.out.2.2.1⟩) (Below.refl _ _) ?a1 ?assign ?body ?done ?stop
  case assign =>
    intro l x W K hK
    unfold encs
    gi_wp2
    exact hK
  case body =>
    rintro l pre x W _ hx
    cases hx
  case done =>
    rintro D ys W hD _ hi hK
    have hc := (boxed_turns HX.out.2.1 (Turns.of_below (S := fun _ => False) hi) (fun h => h)).cell
    have HB := Lib.hid (And.intro hi hD)
    clear hi hD
    gi_wp2
    refine ⟨by simp, .inl ⟨_, _, rfl, run_takeDeferred hK, ?_⟩⟩
    exact ⟨_, results_tmp rfl _ _ _, rfl, (HX.out.1.trans (HB.out.1.mono HX.out.1.size)).trans (belowK_b (w := w) (Nat.le_refl _) W D _ _ (Nat.le_trans HX.out.1.size HB.out.2) hK rfl rfl)⟩
  case stop =>
    rintro D c pre W _ h _
    exact h.elim

set_option maxHeartbeats 1000000 in
theorem keys_no {w : World} {v : Option Addr} (h : NoneV w v) (back : Bool) :
    Calls Try.prog 32 #[.pointer v, .string ⟨#[]⟩, .string ⟨#[]⟩, .bool back] w fun e w' => e = .returned (.string ⟨#[]⟩) ∧ Below w.heap.size w w' := by
  have HR : Hid (Calls Try.prog 24 #[.pointer v, .string ⟨#[]⟩, .string ⟨#[]⟩, .bool back] w fun e w' => e = .returned (.slice none 0 0) ∧ Below w.heap.size w w') := by
    cases back with
    | false => exact ranged_no h _ _
    | true => exact ranged_nob h _ _
  clear h
  go_enter Try.func32, Try.ntmps32
  go_wp2_with fail
  refine HR.out.mono ?_
  rintro e w1 ⟨rfl, hb⟩
  have HB := Lib.hid hb
  clear hb HR
  go_wp2_with fail
  go_loopg [9, 11] 0 (fun _ s9 s11 w2 => s9 = .string ⟨#[]⟩ ∧ s11 = .int .i64 0 ∧ w2 = w1)
  case atStart => exact ⟨rfl, rfl, rfl⟩
  case round =>
    obtain ⟨rfl, rfl, rfl⟩ := hrel
    go_wp2
    go_ret
    exact ⟨rfl, HB.out⟩

end Tb
end Go.Proofs.Ytoglklldclgcbaa
