/-
  Walk: the law TableMoves.
-/
import Derived.Test.YtoglklldclgcbaaTbMoves
namespace Go.Proofs.Ytoglklldclgcbaa
open Go.RowKit Go.Shelf Sk
namespace Tb
attribute [local go_sem] Oper.semAt_some

set_option maxRecDepth 100000 in
set_option maxHeartbeats 4000000 in
theorem moves_few (A : Option Addr) (len cap : Nat) (ls : List (List Chg)) (frm tt : ByteArray) (w : World) (hb : Bts w A len cap ls) (hk : ∀ l ∈ ls, ∀ o ∈ l, o.k.size ≤ reachBytes) (hln : len ≤ 10) :
    Calls Try.prog 5 #[.slice A len cap, .string frm, .string tt] w fun e w' => e = .returned (.bool true) ∧ Below w.heap.size w w' := by
  refine (callsIn_wide (n := 5)).1 ?_
  refine callsIn_of_wp_marks Try.func5 rfl trivial ?_ rfl
  simp only [Try.ntmps5, List.size_toArray, List.length_cons, List.length_nil, Nat.reduceAdd, Nat.reduceSub, Array.replicate_succ, Array.replicate_zero, List.push_toArray, List.append_toArray, List.nil_append, List.cons_append]
  have HB := Lib.hid (And.intro hb hk)
  obtain ⟨n, hn, hn1, hn2⟩ : ∃ n, n = min len 10 ∧ n ≤ len ∧ n ≤ 10 := ⟨_, rfl, Nat.min_le_left _ _, Nat.min_le_right _ _⟩
  have HN := Lib.hid hn
  obtain ⟨w0, hw0⟩ : ∃ W, ((w.alloc (.cells #[.slice A len cap] 22)).alloc (.cells #[.string tt] 9)).alloc (.cells #[.bool false] 4) = W := ⟨_, rfl⟩
  clear hb hk hn
  gi_wp2_with (first
    | (refine ⟨trivial, ?_⟩; gi_at_call 12; try rw [hw0]
       refine (callsIn_wide.2 (New_at 7 w0)).mono ?_; rintro e w1 ⟨t, rfl, h1, hb1⟩
       have H1 := Lib.hid (And.intro h1 hb1)
       clear h1 hb1)
    | (refine ⟨trivial, ?_⟩; gi_at_call 13; refine (callsIn_wide.2 (New_ref 7 w1)).mono ?_; rintro e w2 ⟨rfl, h2⟩
       have H2 := Lib.hid (Two.new H1.out.1 H1.out.2 h2)
       clear h2 H1
       generalize w1.heap.size = p at *
       obtain ⟨w3, hw3⟩ : ∃ W, (w2.alloc (.cells #[TP t] 23)).alloc (.cells #[TP p] 25) = W := ⟨_, rfl⟩))
  obtain ⟨s3, hs3⟩ : ∃ s, w2.heap.size = s := ⟨_, rfl⟩
  obtain ⟨s0, hs0⟩ : ∃ s, w.heap.size = s := ⟨_, rfl⟩
  have HW0 : Hid (w0.heap.size = s0 + 3 ∧ Below s0 w w0 ∧ w0.cell? ⟨s0, 0, none⟩ = some (.slice A len cap) ∧ w0.cell? ⟨s0 + 1, 0, none⟩ = some (.string tt) ∧ Boxed w0 (s0 + 1 + 1) 4 (.bool false)) := by
    subst hw0 hs0
    exact ⟨by simp, (((Below.refl _ w).alloc (Nat.le_refl _) _).alloc (by simp) _).alloc (by simp; omega) _, by go_simp, by go_simp, by simpa using Boxed.new ((w.alloc (.cells #[.slice A len cap] 22)).alloc (.cells #[.string tt] 9)) 4 (.bool false)⟩
  have HW3 : Hid (w3.heap.size = s3 + 2 ∧ Below s3 w2 w3 ∧ w3.cell? ⟨s3, 0, none⟩ = some (TP t) ∧ w3.cell? ⟨s3 + 1, 0, none⟩ = some (TP p)) := by
    subst hw3 hs3
    exact ⟨by simp, ((Below.refl _ w2).alloc (Nat.le_refl _) _).alloc (by simp) _, by go_simp, by go_simp⟩
  rw [hs3]
  rw [hs0]
  obtain ⟨F, hF⟩ : ∃ F : Nat → Prop, F = fun k => k < s0 + 3 ∨ k = s3 ∨ k = s3 + 1 := ⟨_, rfl⟩
  have HF := Lib.hid hF
  have HT3 : Hid (Two F t p [] [] w3) := by
    refine (H2.out.1.more (HW3.out.2.1.mono (Nat.le_of_eq hs3))).less fun k hk => ?_
    rw [hF] at hk
    unfold grew
    have := HW0.out.1
    have := HW3.out.1
    omega
  have hs03 : s0 + 3 ≤ s3 := by have := H2.out.2.size; rw [HW0.out.1, hs3] at this; exact this
  have HB3 : Hid (Below s0 w w3) := by
    have h2 := H2.out.2
    rw [HW0.out.1] at h2
    exact (HW0.out.2.1.trans (h2.mono (by omega))).trans (HW3.out.2.1.mono (by omega))
  have HC3 : Hid (w3.cell? ⟨s0, 0, none⟩ = some (.slice A len cap) ∧ w3.cell? ⟨s0 + 1, 0, none⟩ = some (.string tt) ∧ Boxed w3 (s0 + 1 + 1) 4 (.bool false)) := by
    have h2 := H2.out.2
    rw [HW0.out.1] at h2
    have h3 := h2.trans (HW3.out.2.1.mono (by omega))
    exact ⟨(h3.cell (p := ⟨s0, 0, none⟩) (by show s0 < _; omega)).trans HW0.out.2.2.1, (h3.cell (p := ⟨s0 + 1, 0, none⟩) (by show s0 + 1 < _; omega)).trans HW0.out.2.2.2.1, (h3.block (s0 + 1 + 1) (by omega)).trans HW0.out.2.2.2.2⟩
  have HBW : Hid (∀ W, Turns (fun k => ¬ F k) w3 W → Below w.heap.size w W) := fun W h => by
    refine (hs0 ▸ HB3.out : Below w.heap.size w w3).trans (h.to_below (B := w.heap.size) HB3.out.size (fun k hk => ?_))
    rw [hF] at hk
    omega
  have HCF : Hid (∀ W, Turns (fun k => ¬ F k) w3 W → ∀ b j v, F b → w3.cell? ⟨b, j, none⟩ = some v → W.cell? ⟨b, j, none⟩ = some v) := fun W ht b j v hb hc =>
    (World.cell?_of_block (w := w3) (a := ⟨b, j, none⟩) (ht.block b (World.block_lt_of_cell? w3 _ hc) (fun h => h hb))).trans hc
  have HF1 : Hid (F s0 ∧ F (s0 + 1) ∧ F s3 ∧ F (s3 + 1) ∧ ∀ k, k < s0 → F k) := by
    subst hF
    exact ⟨by omega, by omega, by omega, by omega, fun k hk => by omega⟩
  have HS03 := Lib.hid hs03
  clear hF hw0 hw3 hs3 H2 hs03
  gi_loopg [9] n (fun cnt s w1 => MvRel F w3 t p ls n cnt s w1)
  case atStart => exact ⟨0, by omega, rfl, HT3.out, Turns.refl _ _⟩
  case round =>
    obtain ⟨k, hkn, rfl, htwo, hfr⟩ := hrel
    have HK := Lib.hid hkn
    have HT := Lib.hid (And.intro htwo hfr)
    have hlen := tRows_len ls k
    have a0 : wr.cell? ⟨s0, 0, none⟩ = some (.slice A len cap) := HCF.out wr hfr _ _ _ HF1.out.1 HC3.out.1
    have a1 : wr.cell? ⟨s3, 0, none⟩ = some (TP t) := HCF.out wr hfr _ _ _ HF1.out.2.2.1 HW3.out.2.2.1
    have a2 : wr.cell? ⟨s3 + 1, 0, none⟩ = some (TP p) := HCF.out wr hfr _ _ _ HF1.out.2.2.2.1 HW3.out.2.2.2
    by_cases hlt : k < n
    · obtain ⟨l, hq⟩ : ∃ l, ls[k]? = some l := ⟨_, List.getElem?_eq_getElem (by rw [HB.out.1.hlen]; omega)⟩
      obtain ⟨g, o, A', n', c', rfl, hcell, hops⟩ := HB.out.1.cell k l hq
      have hcw : ∀ W, Turns (fun k => ¬ F k) w3 W → W.cell? ⟨s0, 0, none⟩ = some (.slice (some ⟨g, o, none⟩) len cap) ∧ W.cell? ⟨s3, 0, none⟩ = some (TP t) ∧ W.cell? ⟨s3 + 1, 0, none⟩ = some (TP p) ∧ W.cell? ⟨g, o + k, none⟩ = some (.slice A' n' c') := fun W h =>
        ⟨HCF.out W h _ _ _ HF1.out.1 HC3.out.1, HCF.out W h _ _ _ HF1.out.2.2.1 HW3.out.2.2.1, HCF.out W h _ _ _ HF1.out.2.2.2.1 HW3.out.2.2.2, ((HBW.out W h).cell (p := ⟨g, _, none⟩) (World.block_lt_of_cell? w _ hcell)).trans hcell⟩
      have b1 : (k : Int) < (len : Int) := by omega
      have b2 : (0 : Int) ≤ (k : Int) := by omega
      have b3 : (k : Int) < 10 := by omega
      have x0 := (hcw wr hfr).2.2.2
      have hl9 : (tRows ls k).length ≤ 900000 := by omega
      have hts := tRows_succ hq
      have HO := Lib.hid (And.intro hops hcw)
      have HA := Lib.hid (show ∀ g o, A' = some ⟨g, o, none⟩ → l ≠ [] → F g from fun g o hg hl => HF1.out.2.2.2.2 g (hs0 ▸ hops.f g o hg hl))
      have HNX : Hid (∀ W, Two F t p (appT l (tRows ls k)) (appT l (tRows ls k)) W → Turns (fun k => ¬ F k) w3 W → MvRel F w3 t p ls n (n - (k + 1)) (.int .i64 ((k : Int) + 1)) W) := fun w3 h3 h4 =>
        ⟨k + 1, by omega, by simp, by rw [hts]; exact h3, h4⟩
      have t1 : (chkO l != chkO l) = false := by simp
      generalize tRows ls k = rs at *
      generalize hc : chkO l = c at *
      have HCC := Lib.hid hc
      clear htwo hfr hkn hlen hq hcell hops hcw hts hc
      gi_wp2_with fail
      refine wpIn_wide.2 ?_
      go_region_held3 (fun w' => w'.cell? ⟨s0, 0, none⟩ = some (.slice (some ⟨g, o, none⟩) len cap) ∧ w'.cell? ⟨s3, 0, none⟩ = some (TP t) ∧ w'.cell? ⟨s3 + 1, 0, none⟩ = some (TP p) ∧ w'.cell? ⟨g, o + k, none⟩ = some (.slice A' n' c')) (first | assumption | go_keep)
        (first
         | (go_at_call 14
            refine ((HT.out.1.below ((Below.refl _ _).drew)).apply_t (HO.out.1.below ((HBW.out _ HT.out.2).trans (((Below.refl _ _).drew).mono (HBW.out _ HT.out.2).size))) HA.out hl9).mono ?_
            rw [HCC.out]
            rintro e w2 ⟨rfl, ht2, hf2⟩
            have hb2 := (HT.out.2.trans (Turns.of_below (S := fun k => ¬ F k) ((Below.refl wr.heap.size wr).drew)) (fun _ _ h => h)).trans hf2 (fun _ _ h => h)
            have c2 := HO.out.2 _ hb2
            have h2 := Lib.hid (And.intro ht2 hb2)
            clear ht2 hf2 hb2)
         | (go_at_call 15
            refine (h2.out.1.apply_r (HO.out.1.below (HBW.out _ h2.out.2)) HA.out hl9).mono ?_
            rw [HCC.out]
            rintro e w4 ⟨rfl, ht3, hf3⟩
            have hb3 := h2.out.2.trans hf3 (fun _ _ h => h)
            have c3 := HO.out.2 _ hb3
            have h3 := Lib.hid (And.intro ht3 hb3)
            clear ht3 hf3 hb3))
      have HFI := Lib.hid (HNX.out _ h3.out.1 h3.out.2)
      gi_wp2_with fail
      go_roundg (n - (k + 1))
      case measure => have := HK.out; omega
      case rel => exact HFI.out
    · obtain rfl : k = n := by omega
      have hc1 : ¬ k < len := by have := HN.out; omega
      have hmv : tRows ls k = mv ls 0 := by
        have h1 := HN.out
        have h2 := HB.out.1.hlen
        rw [mv_zero, ← tRows_ten, h2, ← h1]
      have hrun := run_nf
      rw [hmv] at HT
      have a4 : wr.cell? ⟨s0 + 1, 0, none⟩ = some (.string tt) := HCF.out wr hfr _ _ _ HF1.out.2.1 HC3.out.2.1
      have HA1 := callsIn_wide (n := 4).2 (All_tbx t frm tt wr)
      have HA2 := fun W1 => callsIn_wide (n := 4).2 (All_tbx t frm tt W1)
      clear htwo hfr hkn hlen hlt HK HN hmv
      · skip
        first
        | (have ek : decide ((k : Int) < (len : Int)) = false := by simp; omega)
        | (have ek : decide ((k : Int) < (len : Int)) = true := by simp; omega)
        first
        | (have ek2 : decide (k < len) = false := by simp; omega)
        | (have ek2 : decide (k < len) = true := by simp; omega)
        try (have ek3 : decide ((k : Int) < 10) = false := by simp; omega)
        try (have ek4 : decide (k < 10) = false := by simp; omega)
        gi_wp2_with (first
          | (refine ⟨trivial, ?_⟩; gi_at_call 26; refine HA1.mono ?_; clear HA1; rintro e W1 ⟨b1, rfl, h1⟩
             have p1 : W1.cell? ⟨s3, 0, none⟩ = some (TP t) := (h1.bel.cell (p := ⟨s3, 0, none⟩) (World.block_lt_of_cell? _ _ a1)).trans a1
             have p2 : W1.cell? ⟨s0 + 1, 0, none⟩ = some (.string tt) := (h1.bel.cell (p := ⟨s0 + 1, 0, none⟩) (World.block_lt_of_cell? _ _ a4)).trans a4
             have l1 : s3 < W1.heap.size := World.block_lt_of_cell? _ _ p1
             have l2 : s0 + 1 < W1.heap.size := World.block_lt_of_cell? _ _ p2
             have p3 : ((W1.alloc (.cells #[.string frm] 9)).alloc (.cells #[.int .i64 0] 3)).cell? ⟨s0 + 1, 0, none⟩ = some (.string tt) := ((((Below.refl _ W1).alloc (Nat.le_refl _) _).alloc (by simp) _).cell (p := ⟨s0 + 1, 0, none⟩) l2).trans p2
             have H1 := Lib.hid h1
             clear h1)
          | (refine ⟨trivial, ?_⟩; gi_at_call 26; refine (HA2 _).mono ?_; clear HA2; rintro e W2 ⟨b2, rfl, h2⟩
             have H2 := Lib.hid h2
             clear h2))
        clear ek ek2 hrun a0
        try clear ek3 ek4
        obtain ⟨s4, hs4⟩ : ∃ s, W1.heap.size = s := ⟨_, rfl⟩
        have hb2 : b2 = s4 + 2 := by rw [H2.out.at0, ← hs4]; simp
        subst hb2
        rw [hs4]
        have hz : W2.heap.size = s4 + 5 := H2.out.size
        have hb12 : Below W1.heap.size W1 W2 := (((Below.refl _ W1).alloc (Nat.le_refl _) _).alloc (by simp) _).trans (H2.out.bel.mono (by simp; omega))
        have hbr : Below wr.heap.size wr W2 := H1.out.bel.trans (hb12.mono H1.out.bel.size)
        have hws : wr.heap.size ≤ s4 := by rw [← hs4]; exact H1.out.bel.size
        have hw3 : s3 + 2 ≤ wr.heap.size := by have := HT.out.2.size; rw [HW3.out.1] at this; exact this
        have hs03 := HS03.out
        have hcr : ∀ b v, wr.cell? ⟨b, 0, none⟩ = some v → W2.cell? ⟨b, 0, none⟩ = some v := fun b v hc => (hbr.cell (p := ⟨b, 0, none⟩) (World.block_lt_of_cell? _ _ hc)).trans hc
        obtain ⟨G, hG⟩ : ∃ G : Nat → Prop, G = fun k => k < s0 ∨ k = s0 ∨ k = s0 + 1 ∨ k = s3 ∨ k = s3 + 1 ∨ (s4 + 2 ≤ k ∧ k < s4 + 5) := ⟨_, rfl⟩
        have hGl : ∀ k, G k → k < W2.heap.size := fun k hk => by rw [hG] at hk; rw [hz]; omega
        have h2c : TwoC (fun k => G k ∨ k = s4 ∨ k = s4 + 1 ∨ k = s0 + 1 + 1) t p (mv ls 0) (mv ls 0) W2 := ((HT.out.1.more hbr).less (fun k hk => by
          rw [hG] at hk
          unfold grew
          rw [HF.out, hz]
          omega)).cells
        have hbox : Boxed ((W1.alloc (.cells #[.string frm] 9)).alloc (.cells #[.int .i64 0] 3)) s4 9 (.string frm) ∧ Boxed ((W1.alloc (.cells #[.string frm] 9)).alloc (.cells #[.int .i64 0] 3)) (s4 + 1) 3 (.int .i64 0) := by
          rw [← hs4]
          refine ⟨(Boxed.new W1 _ _).alloc _, ?_⟩
          have := Boxed.new (W1.alloc (.cells #[.string frm] 9)) 3 (.int .i64 0)
          simpa using this
        have h0I : MvI G W2 t p s4 (s4 + 1) (s0 + 1 + 1) frm ls [] W2 :=
          ⟨Turns.refl _ _, h2c, (H2.out.bel.block s4 hbox.1.lt).trans hbox.1, (H2.out.bel.block (s4 + 1) hbox.2.lt).trans hbox.2,
            ⟨false, (hbr.block (s0 + 1 + 1) (by omega)).trans ((HT.out.2.block (s0 + 1 + 1) (by rw [HW3.out.1]; omega) (by rw [HF.out]; omega)).trans HC3.out.2.2)⟩, by simp⟩
        have HCG : Hid (∀ W, Turns (fun k => ¬ G k) W2 W → ∀ b j v, G b → W2.cell? ⟨b, j, none⟩ = some v → W.cell? ⟨b, j, none⟩ = some v) := fun W ht b j v hb hc =>
          (World.cell?_of_block (w := W2) (a := ⟨b, j, none⟩) (ht.block b (World.block_lt_of_cell? W2 _ hc) (fun h => h hb))).trans hc
        have HGG : Hid (G s0 ∧ G (s0 + 1) ∧ G s3 ∧ G (s3 + 1) ∧ G (s4 + 2) ∧ G (s4 + 2 + 1) ∧ G (s4 + 2 + 2) ∧ ∀ k, k < s0 → G k) := by
          subst hG
          exact ⟨by omega, by omega, by omega, by omega, by omega, by omega, by omega, fun k hk => by omega⟩
        have HBG : Hid (∀ W, Turns (fun k => ¬ G k) W2 W → Below w.heap.size w W) := fun W h => by
          refine ((HBW.out wr HT.out.2).trans (hbr.mono (HBW.out wr HT.out.2).size)).trans (h.to_below (B := w.heap.size) ((HBW.out wr HT.out.2).trans (hbr.mono (HBW.out wr HT.out.2).size)).size (fun k hk => ?_))
          rw [hG] at hk
          omega
        have HC : Hid (W2.cell? ⟨s0, 0, none⟩ = some (.slice A len cap) ∧ W2.cell? ⟨s0 + 1, 0, none⟩ = some (.string tt) ∧ W2.cell? ⟨s3, 0, none⟩ = some (TP t) ∧ W2.cell? ⟨s3 + 1, 0, none⟩ = some (TP p)) :=
          ⟨hcr _ _ (HCF.out wr HT.out.2 _ _ _ HF1.out.1 HC3.out.1), hcr _ _ a4, hcr _ _ a1, hcr _ _ a2⟩
        have HL := Lib.hid hGl
        have HZ : Hid (s0 + 5 ≤ W2.heap.size) := by show _ ≤ _; omega
        have HNE : Hid (s4 ≠ s4 + 1 ∧ s4 ≠ s0 + 1 + 1 ∧ s4 + 1 ≠ s0 + 1 + 1 ∧ (¬ G s4) ∧ (¬ G (s4 + 1)) ∧ ¬ G (s0 + 1 + 1)) := by
          subst hG
          exact ⟨by omega, by omega, by omega, by omega, by omega, by omega⟩
        have HCL : Hid (W2.cell? ⟨s4 + 2, 0, none⟩ = some (TP t) ∧ W2.cell? ⟨s4 + 2 + 1, 0, none⟩ = some (.string frm) ∧ W2.cell? ⟨s4 + 2 + 2, 0, none⟩ = some (.string tt)) := ⟨H2.out.c0, H2.out.c1, H2.out.c2⟩
        have HSM := Lib.hid (mv_small HB.out.2)
        have hTT : ∀ pre W, MvI G W2 t p s4 (s4 + 1) (s0 + 1 + 1) frm ls pre W → TabT (s4 + 2) (s4 + 2 + 1) (s4 + 2 + 2) t frm tt (fun pre => mv ls pre.length) (fun pre => nextA frm tt (mv ls pre.length) pre) 20 pre W := fun pre W hi =>
          ⟨hi.two.two.tab.imp fun P h => h.tab, HCG.out W hi.fr _ _ _ HGG.out.2.2.2.2.1 HCL.out.1, HCG.out W hi.fr _ _ _ HGG.out.2.2.2.2.2.1 HCL.out.2.1, HCG.out W hi.fr _ _ _ HGG.out.2.2.2.2.2.2.1 HCL.out.2.2, HSM.out _, fun _ _ => hi.lt⟩
        clear H1 H2 hs4 hz hb12 hbr hws hw3 hs03 hcr hG h2c hbox a1 a2 a4 p1 p2 p3 l1 l2
        refine range_next (by omega) (gf := 43) (lb := #[.pointer (some ⟨s4 + 2, 0, none⟩), .pointer (some ⟨s4 + 2 + 1, 0, none⟩), .pointer (some ⟨s4 + 2 + 2, 0, none⟩)]) (All_next 4 (by omega) (s4 + 2) (s4 + 2 + 1) (s4 + 2 + 2) t frm tt 20 (fun pre => mv ls pre.length)) rfl (enters_of Try.func43 (by kernel_rfl) rfl) rfl
          (MvI G W2 t p s4 (s4 + 1) (s0 + 1 + 1) frm ls) (fun c _ W => MvX G W2 (s0 + 1 + 1) c W) (mv_own hGl) (fun c => mvx_own hGl c) hTT h0I ?a1 ?assign ?body ?done ?stop
        case assign =>
          intro l x W K hK
          unfold encs
          gi_wp2
          exact hK
        clear hTT h0I hGl
        case body =>
          rintro l pre x W hi hx
          obtain ⟨Pt, hPt⟩ := hi.two.two.tab
          obtain ⟨r, hflt⟩ := next_flt hPt.tab.srt hx
          obtain ⟨R, v, hR⟩ := hi.two.two.ref
          have hml := mv_len ls pre.length
          have hlt := hi.lt
          have hxm := nextA_mem hx
          have hkn : x.k.size + (⟨#[0]⟩ : ByteArray).size ≤ 9223372036854775807 := by
            have h1 : (⟨#[0]⟩ : ByteArray).size = 1 := rfl
            have h2 := HSM.out _ x hxm
            unfold reachBytes at h2
            omega
          have a1 : W.cell? ⟨s3 + 1, 0, none⟩ = some (TP p) := HCG.out W hi.fr _ _ _ HGG.out.2.2.2.1 HC.out.2.2.2
          have a4 : W.cell? ⟨s0 + 1, 0, none⟩ = some (.string tt) := HCG.out W hi.fr _ _ _ HGG.out.2.1 HC.out.2.1
          have a5 := hi.cat.cell
          have HI := Lib.hid (And.intro hi hlt)
          have HAT := Lib.hid (show next x.k = atA frm (pre ++ [x]) from (atA_snoc frm pre x).symm)
          generalize atA frm pre = a at a5 hflt
          have HREF := Lib.hid (Between_ref R p v _ a tt W hR (by omega))
          rw [hflt] at HREF
          clear hPt hflt hR hml hlt hxm hi hx
          gi_wp2_with (refine ⟨trivial, ?_⟩; gi_at_call 23; refine (CallsIn.inRound l (callsIn_wide.2 HREF.out)).mono ?_; clear HREF; rintro e V1 ⟨u, rfl, hown, hb⟩
                       obtain ⟨A1, c1, rfl, hcs⟩ := Rws.of_owns hown
                       obtain ⟨g, o, rfl, y0, y1⟩ := hcs 0 x rfl
                       rw [Nat.zero_mul, Nat.add_zero] at y0 y1
                       have hbat : Boxed V1 s4 9 (.string (atA frm pre)) := (hb.block s4 HI.out.1.cat.lt).trans HI.out.1.cat
                       have f1 := hbat.cell
                       have f2 := hbat.frozen
                       have H1 := Lib.hid (And.intro hb hbat)
                       clear hb hown hcs hbat)
          have HJ0 : Hid (MvJ G W2 t p s4 (s4 + 1) (s0 + 1 + 1) (atA frm (pre ++ [x])) (pre.length : Nat) (mv ls pre.length) (mv ls pre.length) W (V1.setCell ⟨s4, 0, none⟩ (.string (x.k ++ ⟨#[0]⟩)))) := by
            have h1 := (HI.out.1.start.below H1.out.1).at (next x.k) HNE.out.1 HNE.out.2.1 HNE.out.2.2.2.1
            rw [← HAT.out]
            exact h1
          generalize V1.setCell ⟨s4, 0, none⟩ (.string (x.k ++ ⟨#[0]⟩)) = V2 at HJ0 ⊢
          have hm0 : (0 : Int) ≤ (pre.length : Int) := by omega
          have hm20 : (pre.length : Int) < 20 := by have := HI.out.2; omega
          have hwr : IntKind.i64.wrap ((pre.length : Int) + 1) = (pre.length : Int) + 1 := IntWalk.i64_in _ (by omega)
          have HOK : Hid (∀ V, MvJ G W2 t p s4 (s4 + 1) (s0 + 1 + 1) (atA frm (pre ++ [x])) (pre.length : Nat) (mv ls (pre.length + 1)) (mv ls (pre.length + 1)) W V → pre.length + 1 < 20 → KeepsFrom W2.heap.size W (V.setCell ⟨s4 + 1, 0, none⟩ (.int .i64 ((pre.length : Int) + 1))) ∧ True ∧ MvI G W2 t p s4 (s4 + 1) (s0 + 1 + 1) frm ls (pre ++ [x]) (V.setCell ⟨s4 + 1, 0, none⟩ (.int .i64 ((pre.length : Int) + 1)))) := fun V h hl => by
            have h1 := h.many ((pre.length : Int) + 1) HNE.out.1 HNE.out.2.2.1 HNE.out.2.2.2.2.1
            have hle : (pre ++ [x]).length = pre.length + 1 := by simp
            exact ⟨h1.kp, trivial, h1.fr, by rw [hle]; exact h1.two, h1.cat, by rw [hle]; exact h1.cmany, h1.cres, by rw [hle]; exact hl⟩
          clear f1 f2 y0 y1 a1 a4 a5 hkn H1 HAT
          by_cases hlm : pre.length < len
          · obtain ⟨q, hq⟩ : ∃ q, ls[pre.length]? = some q := ⟨_, List.getElem?_eq_getElem (by rw [HB.out.1.hlen]; omega)⟩
            obtain ⟨g', o', A', n', c', rfl, hcell, hops⟩ := HB.out.1.cell pre.length q hq
            have hcw : ∀ V, Turns (fun k => ¬ G k) W2 V → V.cell? ⟨s0, 0, none⟩ = some (.slice (some ⟨g', o', none⟩) len cap) ∧ V.cell? ⟨s3, 0, none⟩ = some (TP t) ∧ V.cell? ⟨s3 + 1, 0, none⟩ = some (TP p) ∧ V.cell? ⟨g', o' + pre.length, none⟩ = some (.slice A' n' c') := fun V h =>
              ⟨HCG.out V h _ _ _ HGG.out.1 HC.out.1, HCG.out V h _ _ _ HGG.out.2.2.1 HC.out.2.2.1, HCG.out V h _ _ _ HGG.out.2.2.2.1 HC.out.2.2.2, ((HBG.out V h).cell (p := ⟨g', _, none⟩) (World.block_lt_of_cell? w _ hcell)).trans hcell⟩
            have b1 : (pre.length : Int) < (len : Int) := by omega
            have hl9 : (mv ls pre.length).length ≤ 900000 := by have := mv_len ls pre.length; have := HI.out.2; omega
            have hms := mv_succ hq
            have HO := Lib.hid (And.intro hops hcw)
            have HA := Lib.hid (show ∀ g o, A' = some ⟨g, o, none⟩ → q ≠ [] → (G g ∨ g = s4 ∨ g = s4 + 1 ∨ g = s0 + 1 + 1) from fun g o hg hl => .inl (HGG.out.2.2.2.2.2.2.2 g (hs0 ▸ hops.f g o hg hl)))
            obtain ⟨d1, d2, d3, d4⟩ := hcw V2 HJ0.out.fr
            have d5 := HJ0.out.cmany.cell
            rw [hms] at HOK
            have HS : Hid (∀ r1 r2 V, MvJ G W2 t p s4 (s4 + 1) (s0 + 1 + 1) (atA frm (pre ++ [x])) (pre.length : Nat) r1 r2 W V → V.cell? ⟨s0, 0, none⟩ = some (.slice (some ⟨g', o', none⟩) len cap) ∧ V.cell? ⟨s3, 0, none⟩ = some (TP t) ∧ V.cell? ⟨s3 + 1, 0, none⟩ = some (TP p) ∧ V.cell? ⟨g', o' + pre.length, none⟩ = some (.slice A' n' c') ∧ V.cell? ⟨s4 + 1, 0, none⟩ = some (.int .i64 (pre.length : Nat))) := fun r1 r2 V h =>
              ⟨(HO.out.2 V h.fr).1, (HO.out.2 V h.fr).2.1, (HO.out.2 V h.fr).2.2.1, (HO.out.2 V h.fr).2.2.2, h.cmany.cell⟩
            generalize mv ls pre.length = rs at *
            clear hq hcell hops hcw hlm hms
            refine region_round (fun w' => w'.cell? ⟨s0, 0, none⟩ = some (.slice (some ⟨g', o', none⟩) len cap) ∧ w'.cell? ⟨s3, 0, none⟩ = some (TP t) ∧ w'.cell? ⟨s3 + 1, 0, none⟩ = some (TP p) ∧ w'.cell? ⟨g', o' + pre.length, none⟩ = some (.slice A' n' c') ∧ w'.cell? ⟨s4 + 1, 0, none⟩ = some (.int .i64 (pre.length : Nat))) (by kernel_rfl) (fun ⟨_, _, h⟩ => h) (by kernel_rfl) ⟨d1, d2, d3, d4, d5⟩ (fun hHeld => ?_)
            clear d1 d2 d3 d4 d5
            · skip
              refine wpAnyH_take (i := 0) (oi := { dst := some 77, op := _, type := _, pos := _, after := _, guard := _ }) (v := (.int .i64 (pre.length : Nat))) rfl (by kernel_rfl) (by kernel_rfl) (by kernel_rfl) (fun _ _ _ h => h) (Or.inl ⟨by rfl, fun wS hSw => by (try dsimp only at hSw); go_simp⟩) (by assumption) ?_
              simp only [Act.put, List.setIfInBounds_toArray, List.set_cons_zero, List.set_cons_succ]
              refine wpAnyH_take (i := 1) (oi := { dst := some 78, op := _, type := _, pos := _, after := _, guard := _ }) (v := (.slice (some ⟨g', o', none⟩) len cap)) rfl (by kernel_rfl) (by kernel_rfl) (by kernel_rfl) (fun _ _ _ h => h) (Or.inl ⟨by rfl, fun wS hSw => by (try dsimp only at hSw); go_simp⟩) (by assumption) ?_
              simp only [Act.put, List.setIfInBounds_toArray, List.set_cons_zero, List.set_cons_succ]
              refine wpAnyH_take (i := 2) (oi := { dst := some 79, op := _, type := _, pos := _, after := _, guard := _ }) (v := (.int .i64 (len : Nat))) rfl (by kernel_rfl) (by kernel_rfl) (by kernel_rfl) (fun _ _ _ h => h) (Or.inl ⟨by rfl, fun wS hSw => by (try dsimp only at hSw); go_simp⟩) (by assumption) ?_
              simp only [Act.put, List.setIfInBounds_toArray, List.set_cons_zero, List.set_cons_succ]
              refine wpAnyH_take (i := 3) (oi := { dst := some 80, op := _, type := _, pos := _, after := _, guard := _ }) (v := (.bool true)) rfl (by kernel_rfl) (by kernel_rfl) (by kernel_rfl) (fun _ _ _ h => h) (Or.inl ⟨by rfl, fun wS hSw => by (try dsimp only at hSw); go_simp⟩) (by assumption) ?_
              simp only [Act.put, List.setIfInBounds_toArray, List.set_cons_zero, List.set_cons_succ]
              refine wpAnyH_take (i := 4) (oi := { dst := some 81, op := _, type := _, pos := _, after := _, guard := _ }) (v := (.bool true)) rfl (by kernel_rfl) (by kernel_rfl) (by kernel_rfl) (fun _ _ _ h => h) (Or.inl ⟨by rfl, fun wS hSw => by (try dsimp only at hSw); go_simp⟩) (by assumption) ?_
              simp only [Act.put, List.setIfInBounds_toArray, List.set_cons_zero, List.set_cons_succ]
              refine wpAnyH_take (i := 5) (oi := { dst := some 82, op := _, type := _, pos := _, after := _, guard := _ }) (v := (.int .i64 (pre.length : Nat))) rfl (by kernel_rfl) (by kernel_rfl) (by kernel_rfl) (fun _ _ _ h => h) (Or.inl ⟨by rfl, fun wS hSw => by (try dsimp only at hSw); go_simp⟩) (by assumption) ?_
              simp only [Act.put, List.setIfInBounds_toArray, List.set_cons_zero, List.set_cons_succ]
              refine wpAnyH_take (i := 6) (oi := { dst := some 83, op := _, type := _, pos := _, after := _, guard := _ }) (v := (.bool true)) rfl (by kernel_rfl) (by kernel_rfl) (by kernel_rfl) (fun _ _ _ h => h) (Or.inl ⟨by rfl, fun wS hSw => by (try dsimp only at hSw); go_simp⟩) (by assumption) ?_
              simp only [Act.put, List.setIfInBounds_toArray, List.set_cons_zero, List.set_cons_succ]
              refine wpAnyH_take (i := 7) (oi := { dst := some 84, op := _, type := _, pos := _, after := _, guard := _ }) (v := (.bool true)) rfl (by kernel_rfl) (by kernel_rfl) (by kernel_rfl) (fun _ _ _ h => h) (Or.inl ⟨by rfl, fun wS hSw => by (try dsimp only at hSw); go_simp⟩) (by assumption) ?_
              simp only [Act.put, List.setIfInBounds_toArray, List.set_cons_zero, List.set_cons_succ]
              refine wpAnyH_take (i := 8) (oi := { dst := some 85, op := _, type := _, pos := _, after := _, guard := _ }) (v := (.bool true)) rfl (by kernel_rfl) (by kernel_rfl) (by kernel_rfl) (fun _ _ _ h => h) (Or.inl ⟨by rfl, fun wS hSw => by (try dsimp only at hSw); go_simp⟩) (by assumption) ?_
              simp only [Act.put, List.setIfInBounds_toArray, List.set_cons_zero, List.set_cons_succ]
              refine wpAnyH_take (i := 9) (oi := { dst := some 86, op := _, type := _, pos := _, after := _, guard := _ }) (v := (TP t)) rfl (by kernel_rfl) (by kernel_rfl) (by kernel_rfl) (fun _ _ _ h => h) (Or.inl ⟨by rfl, fun wS hSw => by (try dsimp only at hSw); go_simp⟩) (by assumption) ?_
              simp only [Act.put, List.setIfInBounds_toArray, List.set_cons_zero, List.set_cons_succ]
              refine wpAnyH_take (i := 10) (oi := { dst := some 87, op := _, type := _, pos := _, after := _, guard := _ }) (v := (.slice (some ⟨g', o', none⟩) len cap)) rfl (by kernel_rfl) (by kernel_rfl) (by kernel_rfl) (fun _ _ _ h => h) (Or.inl ⟨by rfl, fun wS hSw => by (try dsimp only at hSw); go_simp⟩) (by assumption) ?_
              simp only [Act.put, List.setIfInBounds_toArray, List.set_cons_zero, List.set_cons_succ]
              refine wpAnyH_take (i := 11) (oi := { dst := some 88, op := _, type := _, pos := _, after := _, guard := _ }) (v := (.int .i64 (pre.length : Nat))) rfl (by kernel_rfl) (by kernel_rfl) (by kernel_rfl) (fun _ _ _ h => h) (Or.inl ⟨by rfl, fun wS hSw => by (try dsimp only at hSw); go_simp⟩) (by assumption) ?_
              simp only [Act.put, List.setIfInBounds_toArray, List.set_cons_zero, List.set_cons_succ]
              refine wpAnyH_take (i := 12) (oi := { dst := some 89, op := _, type := _, pos := _, after := _, guard := _ }) (v := (.pointer (some ⟨g', o' + pre.length, none⟩))) rfl (by kernel_rfl) (by kernel_rfl) (by kernel_rfl) (fun _ _ _ h => h) (Or.inl ⟨by rfl, fun wS hSw => by (try dsimp only at hSw); go_simp⟩) (by assumption) ?_
              simp only [Act.put, List.setIfInBounds_toArray, List.set_cons_zero, List.set_cons_succ]
              refine wpAnyH_take (i := 13) (oi := { dst := some 90, op := _, type := _, pos := _, after := _, guard := _ }) (v := (.slice A' n' c')) rfl (by kernel_rfl) (by kernel_rfl) (by kernel_rfl) (fun _ _ _ h => h) (Or.inl ⟨by rfl, fun wS hSw => by (try dsimp only at hSw); go_simp⟩) (by assumption) ?_
              simp only [Act.put, List.setIfInBounds_toArray, List.set_cons_zero, List.set_cons_succ]
              refine wpAnyH_take (i := 15) (oi := { dst := some 92, op := _, type := _, pos := _, after := _, guard := _ }) (v := (TP p)) rfl (by kernel_rfl) (by kernel_rfl) (by kernel_rfl) (fun _ _ _ h => h) (Or.inl ⟨by rfl, fun wS hSw => by (try dsimp only at hSw); go_simp⟩) (by assumption) ?_
              simp only [Act.put, List.setIfInBounds_toArray, List.set_cons_zero, List.set_cons_succ]
              refine wpAnyH_take (i := 16) (oi := { dst := some 93, op := _, type := _, pos := _, after := _, guard := _ }) (v := (.slice (some ⟨g', o', none⟩) len cap)) rfl (by kernel_rfl) (by kernel_rfl) (by kernel_rfl) (fun _ _ _ h => h) (Or.inl ⟨by rfl, fun wS hSw => by (try dsimp only at hSw); go_simp⟩) (by assumption) ?_
              simp only [Act.put, List.setIfInBounds_toArray, List.set_cons_zero, List.set_cons_succ]
              refine wpAnyH_take (i := 17) (oi := { dst := some 94, op := _, type := _, pos := _, after := _, guard := _ }) (v := (.int .i64 (pre.length : Nat))) rfl (by kernel_rfl) (by kernel_rfl) (by kernel_rfl) (fun _ _ _ h => h) (Or.inl ⟨by rfl, fun wS hSw => by (try dsimp only at hSw); go_simp⟩) (by assumption) ?_
              simp only [Act.put, List.setIfInBounds_toArray, List.set_cons_zero, List.set_cons_succ]
              refine wpAnyH_take (i := 18) (oi := { dst := some 95, op := _, type := _, pos := _, after := _, guard := _ }) (v := (.pointer (some ⟨g', o' + pre.length, none⟩))) rfl (by kernel_rfl) (by kernel_rfl) (by kernel_rfl) (fun _ _ _ h => h) (Or.inl ⟨by rfl, fun wS hSw => by (try dsimp only at hSw); go_simp⟩) (by assumption) ?_
              simp only [Act.put, List.setIfInBounds_toArray, List.set_cons_zero, List.set_cons_succ]
              refine wpAnyH_take (i := 19) (oi := { dst := some 96, op := _, type := _, pos := _, after := _, guard := _ }) (v := (.slice A' n' c')) rfl (by kernel_rfl) (by kernel_rfl) (by kernel_rfl) (fun _ _ _ h => h) (Or.inl ⟨by rfl, fun wS hSw => by (try dsimp only at hSw); go_simp⟩) (by assumption) ?_
              simp only [Act.put, List.setIfInBounds_toArray, List.set_cons_zero, List.set_cons_succ]
              refine wpAnyH_ready (rs := [14]) (by kernel_rfl) (by simp) ?_
              refine AllReadyH.cons rfl (fun K hK => ?_) ?_
              rotate_left
              · exact AllReadyH.nil
              go_simp
              refine (HJ0.out.two.below ((Below.refl _ _).drew)).apply_t (HO.out.1.below ((HBG.out _ HJ0.out.fr).trans (((Below.refl _ _).drew).mono (HBG.out _ HJ0.out.fr).size))) HA.out hl9 |>.mono ?_
              rintro e V3 ⟨rfl, ht3, hf3, hk3⟩
              have H3 := Lib.hid ((HJ0.out.below ((Below.refl _ _).drew)).turned ht3 hf3 hk3)
              clear ht3 hf3 hk3
              go_wp2_with fail
              refine hK.out _ _ (HS.out _ _ _ H3.out) (fun hHeld2 => ?_)
              clear hK K hHeld
              refine wpAnyH_ready (rs := [20]) (by kernel_rfl) (by simp) ?_
              refine AllReadyH.cons rfl (fun K hK => ?_) ?_
              rotate_left
              · exact AllReadyH.nil
              go_simp
              refine (H3.out.two.apply_r (HO.out.1.below (HBG.out _ H3.out.fr)) HA.out hl9).mono ?_
              rintro e WX ⟨rfl, ht4, hf4, hk4⟩
              have HJ := Lib.hid (H3.out.turned ht4 hf4 hk4)
              clear ht4 hf4 hk4
              go_wp2_with fail
              refine hK.out _ _ (HS.out _ _ _ HJ.out) (fun hHeld3 => ?_)
              refine wpAnyH_take (i := 21) (oi := { dst := some 98, op := _, type := _, pos := _, after := _, guard := _ }) (v := (.bool false)) rfl (by kernel_rfl) (by kernel_rfl) (by kernel_rfl) (fun _ _ _ h => h) (Or.inl ⟨by rfl, fun wS hSw => by (try dsimp only at hSw); go_simp⟩) (by assumption) ?_
              simp only [Act.put, List.setIfInBounds_toArray, List.set_cons_zero, List.set_cons_succ]
              refine wpAnyH_take (i := 22) (oi := { dst := some 99, op := _, type := _, pos := _, after := _, guard := _ }) (v := (.bool false)) rfl (by kernel_rfl) (by kernel_rfl) (by kernel_rfl) (fun _ _ _ h => h) (Or.inl ⟨by rfl, fun wS hSw => by (try dsimp only at hSw); go_simp⟩) (by assumption) ?_
              simp only [Act.put, List.setIfInBounds_toArray, List.set_cons_zero, List.set_cons_succ]
              refine wpAnyH_done (by kernel_rfl) ?_ _
              clear hK K hHeld2 hHeld3
              have c1 := HJ.out.cmany.cell
              have c2 := HJ.out.cmany.frozen
              gi_wp2_with (refine ⟨trivial, ?_⟩; gi_at_call 20; refine (CallsIn.inRound l (callsIn_wide.2 (works_any _))).mono ?_; rintro e WY ⟨rfl, hbY⟩
                           have HY := Lib.hid (((HJ.out.many _ HNE.out.1 HNE.out.2.2.1 HNE.out.2.2.2.2.1).below hbY))
                           have z1 := HY.out.cres.choose_spec.cell
                           have z2 := HY.out.cres.choose_spec.frozen
                           clear hbY)
              all_goals
                first
                | exact HOK.out _ HJ.out (by have := HI.out.2; omega)
                | exact HOK.out _ HJ.out (by rename_i h8; have h9 := ne_of_beq_false h8; have := HI.out.2; omega)
                | (have HZ2 := Lib.hid (HY.out.res true HNE.out.2.1 HNE.out.2.2.1 HNE.out.2.2.2.2.2)
                   exact ⟨HZ2.out.1.kp, rfl, HZ2.out.1.fr, HZ2.out.2⟩)
          · have hms : mv ls (pre.length + 1) = mv ls pre.length := mv_past (by rw [HB.out.1.hlen]; omega)
            have d1 := HCG.out V2 HJ0.out.fr _ _ _ HGG.out.1 HC.out.1
            have d5 := HJ0.out.cmany.cell
            have ek : decide ((pre.length : Int) < (len : Int)) = false := by simp; omega
            have ek2 : decide (pre.length < len) = false := by simp; omega
            rw [hms] at HOK
            clear hlm
            refine region_round (fun w' => w'.cell? ⟨s0, 0, none⟩ = some (.slice A len cap) ∧ w'.cell? ⟨s4 + 1, 0, none⟩ = some (.int .i64 (pre.length : Nat))) (by kernel_rfl) (fun ⟨_, _, h⟩ => h) (by kernel_rfl) ⟨d1, d5⟩ (fun hHeld => ?_)
            · clear d1 d5
              refine wpAnyH_take (i := 0) (oi := { dst := some 77, op := _, type := _, pos := _, after := _, guard := _ }) (v := (.int .i64 (pre.length : Nat))) rfl (by kernel_rfl) (by kernel_rfl) (by kernel_rfl) (fun _ _ _ h => h) (Or.inl ⟨by rfl, fun wS hSw => by (try dsimp only at hSw); go_simp⟩) (by assumption) ?_
              simp only [Act.put, List.setIfInBounds_toArray, List.set_cons_zero, List.set_cons_succ]
              refine wpAnyH_take (i := 1) (oi := { dst := some 78, op := _, type := _, pos := _, after := _, guard := _ }) (v := (.slice A len cap)) rfl (by kernel_rfl) (by kernel_rfl) (by kernel_rfl) (fun _ _ _ h => h) (Or.inl ⟨by rfl, fun wS hSw => by (try dsimp only at hSw); go_simp⟩) (by assumption) ?_
              simp only [Act.put, List.setIfInBounds_toArray, List.set_cons_zero, List.set_cons_succ]
              refine wpAnyH_take (i := 2) (oi := { dst := some 79, op := _, type := _, pos := _, after := _, guard := _ }) (v := (.int .i64 (len : Nat))) rfl (by kernel_rfl) (by kernel_rfl) (by kernel_rfl) (fun _ _ _ h => h) (Or.inl ⟨by rfl, fun wS hSw => by (try dsimp only at hSw); go_simp⟩) (by assumption) ?_
              simp only [Act.put, List.setIfInBounds_toArray, List.set_cons_zero, List.set_cons_succ]
              refine wpAnyH_take (i := 3) (oi := { dst := some 80, op := _, type := _, pos := _, after := _, guard := _ }) (v := (.bool false)) rfl (by kernel_rfl) (by kernel_rfl) (by kernel_rfl) (fun _ _ _ h => h) (Or.inl ⟨by rfl, fun wS hSw => by (try dsimp only at hSw); go_simp⟩) (by assumption) ?_
              simp only [Act.put, List.setIfInBounds_toArray, List.set_cons_zero, List.set_cons_succ]
              refine wpAnyH_take (i := 4) (oi := { dst := some 81, op := _, type := _, pos := _, after := _, guard := _ }) (v := (.bool false)) rfl (by kernel_rfl) (by kernel_rfl) (by kernel_rfl) (fun _ _ _ h => h) (Or.inl ⟨by rfl, fun wS hSw => by (try dsimp only at hSw); go_simp⟩) (by assumption) ?_
              simp only [Act.put, List.setIfInBounds_toArray, List.set_cons_zero, List.set_cons_succ]
              refine wpAnyH_take (i := 5) (oi := { dst := some 82, op := _, type := _, pos := _, after := _, guard := _ }) (v := undef) rfl (by kernel_rfl) (by kernel_rfl) (by kernel_rfl) (fun _ _ _ h => h) (Or.inr ⟨by rfl, rfl⟩) (by assumption) ?_
              simp only [Act.put, List.setIfInBounds_toArray, List.set_cons_zero, List.set_cons_succ]
              refine wpAnyH_take (i := 6) (oi := { dst := some 83, op := _, type := _, pos := _, after := _, guard := _ }) (v := undef) rfl (by kernel_rfl) (by kernel_rfl) (by kernel_rfl) (fun _ _ _ h => h) (Or.inr ⟨by rfl, rfl⟩) (by assumption) ?_
              simp only [Act.put, List.setIfInBounds_toArray, List.set_cons_zero, List.set_cons_succ]
              refine wpAnyH_take (i := 7) (oi := { dst := some 84, op := _, type := _, pos := _, after := _, guard := _ }) (v := (.bool false)) rfl (by kernel_rfl) (by kernel_rfl) (by kernel_rfl) (fun _ _ _ h => h) (Or.inl ⟨by rfl, fun wS hSw => by (try dsimp only at hSw); go_simp⟩) (by assumption) ?_
              simp only [Act.put, List.setIfInBounds_toArray, List.set_cons_zero, List.set_cons_succ]
              refine wpAnyH_take (i := 8) (oi := { dst := some 85, op := _, type := _, pos := _, after := _, guard := _ }) (v := (.bool false)) rfl (by kernel_rfl) (by kernel_rfl) (by kernel_rfl) (fun _ _ _ h => h) (Or.inl ⟨by rfl, fun wS hSw => by (try dsimp only at hSw); go_simp⟩) (by assumption) ?_
              simp only [Act.put, List.setIfInBounds_toArray, List.set_cons_zero, List.set_cons_succ]
              refine wpAnyH_take (i := 9) (oi := { dst := some 86, op := _, type := _, pos := _, after := _, guard := _ }) (v := undef) rfl (by kernel_rfl) (by kernel_rfl) (by kernel_rfl) (fun _ _ _ h => h) (Or.inr ⟨by rfl, rfl⟩) (by assumption) ?_
              simp only [Act.put, List.setIfInBounds_toArray, List.set_cons_zero, List.set_cons_succ]
              refine wpAnyH_take (i := 10) (oi := { dst := some 87, op := _, type := _, pos := _, after := _, guard := _ }) (v := undef) rfl (by kernel_rfl) (by kernel_rfl) (by kernel_rfl) (fun _ _ _ h => h) (Or.inr ⟨by rfl, rfl⟩) (by assumption) ?_
              simp only [Act.put, List.setIfInBounds_toArray, List.set_cons_zero, List.set_cons_succ]
              refine wpAnyH_take (i := 11) (oi := { dst := some 88, op := _, type := _, pos := _, after := _, guard := _ }) (v := undef) rfl (by kernel_rfl) (by kernel_rfl) (by kernel_rfl) (fun _ _ _ h => h) (Or.inr ⟨by rfl, rfl⟩) (by assumption) ?_
              simp only [Act.put, List.setIfInBounds_toArray, List.set_cons_zero, List.set_cons_succ]
              refine wpAnyH_take (i := 12) (oi := { dst := some 89, op := _, type := _, pos := _, after := _, guard := _ }) (v := undef) rfl (by kernel_rfl) (by kernel_rfl) (by kernel_rfl) (fun _ _ _ h => h) (Or.inr ⟨by rfl, rfl⟩) (by assumption) ?_
              simp only [Act.put, List.setIfInBounds_toArray, List.set_cons_zero, List.set_cons_succ]
              refine wpAnyH_take (i := 13) (oi := { dst := some 90, op := _, type := _, pos := _, after := _, guard := _ }) (v := undef) rfl (by kernel_rfl) (by kernel_rfl) (by kernel_rfl) (fun _ _ _ h => h) (Or.inr ⟨by rfl, rfl⟩) (by assumption) ?_
              simp only [Act.put, List.setIfInBounds_toArray, List.set_cons_zero, List.set_cons_succ]
              refine wpAnyH_take (i := 14) (oi := { dst := some 91, op := _, type := _, pos := _, after := _, guard := _ }) (v := undef) rfl (by kernel_rfl) (by kernel_rfl) (by kernel_rfl) (fun _ _ _ h => h) (Or.inr ⟨by rfl, rfl⟩) (by assumption) ?_
              simp only [Act.put, List.setIfInBounds_toArray, List.set_cons_zero, List.set_cons_succ]
              refine wpAnyH_take (i := 15) (oi := { dst := some 92, op := _, type := _, pos := _, after := _, guard := _ }) (v := undef) rfl (by kernel_rfl) (by kernel_rfl) (by kernel_rfl) (fun _ _ _ h => h) (Or.inr ⟨by rfl, rfl⟩) (by assumption) ?_
              simp only [Act.put, List.setIfInBounds_toArray, List.set_cons_zero, List.set_cons_succ]
              refine wpAnyH_take (i := 16) (oi := { dst := some 93, op := _, type := _, pos := _, after := _, guard := _ }) (v := undef) rfl (by kernel_rfl) (by kernel_rfl) (by kernel_rfl) (fun _ _ _ h => h) (Or.inr ⟨by rfl, rfl⟩) (by assumption) ?_
              simp only [Act.put, List.setIfInBounds_toArray, List.set_cons_zero, List.set_cons_succ]
              refine wpAnyH_take (i := 17) (oi := { dst := some 94, op := _, type := _, pos := _, after := _, guard := _ }) (v := undef) rfl (by kernel_rfl) (by kernel_rfl) (by kernel_rfl) (fun _ _ _ h => h) (Or.inr ⟨by rfl, rfl⟩) (by assumption) ?_
              simp only [Act.put, List.setIfInBounds_toArray, List.set_cons_zero, List.set_cons_succ]
              refine wpAnyH_take (i := 18) (oi := { dst := some 95, op := _, type := _, pos := _, after := _, guard := _ }) (v := undef) rfl (by kernel_rfl) (by kernel_rfl) (by kernel_rfl) (fun _ _ _ h => h) (Or.inr ⟨by rfl, rfl⟩) (by assumption) ?_
              simp only [Act.put, List.setIfInBounds_toArray, List.set_cons_zero, List.set_cons_succ]
              refine wpAnyH_take (i := 19) (oi := { dst := some 96, op := _, type := _, pos := _, after := _, guard := _ }) (v := undef) rfl (by kernel_rfl) (by kernel_rfl) (by kernel_rfl) (fun _ _ _ h => h) (Or.inr ⟨by rfl, rfl⟩) (by assumption) ?_
              simp only [Act.put, List.setIfInBounds_toArray, List.set_cons_zero, List.set_cons_succ]
              refine wpAnyH_take (i := 20) (oi := { dst := some 97, op := _, type := _, pos := _, after := _, guard := _ }) (v := undef) rfl (by kernel_rfl) (by kernel_rfl) (by kernel_rfl) (fun _ _ _ h => h) (Or.inr ⟨by rfl, rfl⟩) (by assumption) ?_
              simp only [Act.put, List.setIfInBounds_toArray, List.set_cons_zero, List.set_cons_succ]
              refine wpAnyH_take (i := 21) (oi := { dst := some 98, op := _, type := _, pos := _, after := _, guard := _ }) (v := undef) rfl (by kernel_rfl) (by kernel_rfl) (by kernel_rfl) (fun _ _ _ h => h) (Or.inr ⟨by rfl, rfl⟩) (by assumption) ?_
              simp only [Act.put, List.setIfInBounds_toArray, List.set_cons_zero, List.set_cons_succ]
              refine wpAnyH_take (i := 22) (oi := { dst := some 99, op := _, type := _, pos := _, after := _, guard := _ }) (v := (.bool false)) rfl (by kernel_rfl) (by kernel_rfl) (by kernel_rfl) (fun _ _ _ h => h) (Or.inl ⟨by rfl, fun wS hSw => by (try dsimp only at hSw); go_simp⟩) (by assumption) ?_
              simp only [Act.put, List.setIfInBounds_toArray, List.set_cons_zero, List.set_cons_succ]
              refine wpAnyH_done (by kernel_rfl) ?_ _
              clear hHeld
              have HJ := Lib.hid (HJ0.out.below ((Below.refl _ _).drew))
              generalize V2.drew = WX at *
              have c1 := HJ.out.cmany.cell
              have c2 := HJ.out.cmany.frozen
              gi_wp2_with (refine ⟨trivial, ?_⟩; gi_at_call 20; refine (CallsIn.inRound l (callsIn_wide.2 (works_any _))).mono ?_; rintro e WY ⟨rfl, hbY⟩
                           have HY := Lib.hid (((HJ.out.many _ HNE.out.1 HNE.out.2.2.1 HNE.out.2.2.2.2.1).below hbY))
                           have z1 := HY.out.cres.choose_spec.cell
                           have z2 := HY.out.cres.choose_spec.frozen
                           clear hbY)
              all_goals
                first
                | exact HOK.out _ HJ.out (by have := HI.out.2; omega)
                | exact HOK.out _ HJ.out (by rename_i h8; have h9 := ne_of_beq_false h8; have := HI.out.2; omega)
                | (have HZ2 := Lib.hid (HY.out.res true HNE.out.2.1 HNE.out.2.2.1 HNE.out.2.2.2.2.2)
                   exact ⟨HZ2.out.1.kp, rfl, HZ2.out.1.fr, HZ2.out.2⟩)
        case done =>
          rintro D ys W hD hend hi hK
          obtain ⟨Pt, hPt⟩ := hi.two.two.tab
          have hflt := end_flt hPt.tab.srt hend
          obtain ⟨R, v, hR⟩ := hi.two.two.ref
          have hml := mv_len ls ys.length
          have hlt := hi.lt
          have a1 : W.cell? ⟨s3 + 1, 0, none⟩ = some (TP p) := HCG.out W hi.fr _ _ _ HGG.out.2.2.2.1 HC.out.2.2.2
          have a4 : W.cell? ⟨s0 + 1, 0, none⟩ = some (.string tt) := HCG.out W hi.fr _ _ _ HGG.out.2.1 HC.out.2.1
          have a5 := hi.cat.cell
          obtain ⟨q, hq⟩ := hi.cres
          have HI := Lib.hid (And.intro (HBG.out W hi.fr) (And.intro hq hK))
          have HDL : Hid (s0 + 1 + 1 < D ∧ w.heap.size ≤ D) := by
            have := HZ.out
            exact ⟨by omega, by omega⟩
          generalize atA frm ys = a at a5 hflt
          have HREF := Lib.hid (Between_ref R p v _ a tt W hR (by omega))
          rw [hflt] at HREF
          clear hPt hflt hR hml hlt hi hend hq hD hK
          gi_wp2_with (first
            | (refine ⟨trivial, ?_⟩; gi_at_call 23; refine (callsIn_wide.2 HREF.out).mono ?_; clear HREF; rintro e V1 ⟨u, rfl, hown, hb⟩
               obtain ⟨A1, c1, rfl, hcs⟩ := Rws.of_owns hown
               have H1 := Lib.hid hb
               clear hb hown hcs)
            | (refine ⟨trivial, ?_⟩; gi_at_call 20; refine (callsIn_wide.2 (works_any _)).mono ?_; rintro e V2 ⟨rfl, hb⟩
               have HV := Lib.hid (H1.out.trans (hb.mono H1.out.size))
               have hr2 : Boxed V2 (s0 + 1 + 1) 4 (.bool q) := (HV.out.block _ HI.out.2.1.lt).trans HI.out.2.1
               have z1 := hr2.cell
               have z2 := hr2.frozen
               clear hb))
          have hr3 : Boxed (V2.setCell ⟨s0 + 1 + 1, 0, none⟩ (.bool true)) (s0 + 1 + 1) 4 (.bool true) := hr2.set _
          have hK2 : V2.heap[D]? = some (.deferred (some [])) := (HV.out.block D (Array.getElem?_eq_some_iff.1 HI.out.2.2).1).trans HI.out.2.2
          have ht : Turns (fun k => k = s0 + 1 + 1) V2 (V2.setCell ⟨s0 + 1 + 1, 0, none⟩ (.bool true)) := set_turns _ _ _
          have hK3 : (V2.setCell ⟨s0 + 1 + 1, 0, none⟩ (.bool true)).heap[D]? = some (.deferred (some [])) := (ht.block D (Array.getElem?_eq_some_iff.1 hK2).1 (by have := HDL.out; omega)).trans hK2
          refine ⟨by simp, .inl ⟨_, _, rfl, run_takeDeferred hK3, ?_⟩⟩
          refine ⟨_, results_box rfl _ _ _ rfl (Boxed.put hr3 (by have := HDL.out; omega) _) rfl, rfl, ?_⟩
          have hb1 := HI.out.1.trans (HV.out.mono HI.out.1.size)
          have hb2 := hb1.trans (ht.to_below (B := w.heap.size) hb1.size (fun k e => by omega))
          exact hb2.trans ((Turns.of_grown (grownBy_putObj' _ D (.deferred none))).to_below (B := w.heap.size) hb2.size (fun k e => by injection e with e; have := HDL.out; omega))
        case stop =>
          rintro D c pre W hD hi hK
          have hc := hi.ret
          subst hc
          have HI := Lib.hid (And.intro (HBG.out W hi.fr) (And.intro hi.res hK))
          have HDL : Hid (s0 + 1 + 1 < D ∧ w.heap.size ≤ D) := by
            have := HZ.out
            exact ⟨by omega, by omega⟩
          clear hi hK hD
          gi_wp2
          refine ⟨by simp, .inl ⟨_, _, rfl, run_takeDeferred HI.out.2.2, ?_⟩⟩
          refine ⟨_, results_box rfl _ _ _ rfl (Boxed.put HI.out.2.1 (by have := HDL.out; omega) _) rfl, rfl, ?_⟩
          exact HI.out.1.trans ((Turns.of_grown (grownBy_putObj' _ D (.deferred none))).to_below (B := w.heap.size) HI.out.1.size (fun k e => by injection e with e; have := HDL.out; omega))

end Tb
end Go.Proofs.Ytoglklldclgcbaa
