/-
  Walk: TableKnown, its third part: the chapter's table turned while All tells it.
-/
import Derived.Test.YtoglklldclgcbaaTbKnC
namespace Go.Proofs.Ytoglklldclgcbaa
open Go.RowKit Go.Shelf Sk
namespace Tb
attribute [local go_sem] Oper.semAt_some

theorem up_small : ∀ pre, ∀ x ∈ upR pre, x.k.size ≤ reachBytes := by
  intro pre x hx
  have h : x.k.size ≤ 1 := by
    unfold upR at hx
    split at hx
    · exact ch_small x hx
    · simp only [rs1, List.mem_cons, List.not_mem_nil, or_false] at hx
      rcases hx with rfl | rfl | rfl | rfl <;> exact Nat.le_refl 1
    · simp only [rs2, List.mem_cons, List.not_mem_nil, or_false] at hx
      rcases hx with rfl | rfl | rfl <;> exact Nat.le_refl 1
  unfold reachBytes
  omega

set_option maxRecDepth 100000 in
set_option maxHeartbeats 4000000 in
theorem kn_3 (c : Code) (Q : Exit → Act → World → Prop) (A : Array Value) (w Wc W : World) (g t t2 b bu : Nat) (hK : KnS g t [] mostD w Wc) (hbl : Below Wc.heap.size Wc W) (hch : ChB Wc t2 b chRows W) (hbu : b < bu) (hup : Boxed W bu 9 (.string ⟨#[]⟩)) (hsz : A.size = 225)
    (h3 : A[3]? = some (TP t)) (h9 : A[9]? = some (.bool true)) (h11 : A[11]? = some (.int .i64 0)) (h12 : A[12]? = some (.int .i64 0)) (h13 : A[13]? = some (.pointer (some ⟨b, 0, none⟩))) (h14 : A[14]? = some (.pointer (some ⟨bu, 0, none⟩)))
    (hc : ∀ (A' : Array Value) (W' : World) (D : Nat), Below Wc.heap.size Wc W' → ChE Wc t2 b bu ⟨#[97, 99, 100]⟩ rs2 W' → W'.heap[D]? = some (.deferred (some [])) → Wc.heap.size ≤ D →
      A'.size = 225 → A'[3]? = some (TP t) → A'[9]? = some (.bool true) → A'[11]? = some (.int .i64 0) → A'[12]? = some (.int .i64 0) → A'[13]? = some (.pointer (some ⟨b, 0, none⟩)) → A'[14]? = some (.pointer (some ⟨bu, 0, none⟩)) → c.wpIn Fence.wide 5 Try.prog Q ⟨A', [⟨.collected D, #[]⟩]⟩ W') :
    (kput 1 (ktail 16 kb) c).wpIn Fence.wide 5 Try.prog Q ⟨A, []⟩ W := by
  obtain ⟨u, rfl, hu⟩ := lay225 A hsz
  rw [hu 3 _ h3, hu 9 _ h9, hu 11 _ h11, hu 12 _ h12, hu 13 _ h13, hu 14 _ h14]
  have HC := Lib.hid hc
  have cx := hch.box.cell
  have HA := callsIn_wide (n := 4).2 (All_tbx t2 ⟨#[]⟩ ⟨#[]⟩ W)
  have HH := Lib.hid (And.intro hK (And.intro hbl (And.intro hch (And.intro hbu hup))))
  clear hc h3 h9 h11 h12 h13 h14 hu hsz hK hbl hch hup
  simp only [kb, ktail, kput, Try.f11, Option.getD_some]
  gi_wp2_with (refine ⟨trivial, ?_⟩; gi_at_call 26; refine HA.mono ?_; clear HA; rintro e wL ⟨b3, rfl, h1⟩; have HL := Lib.hid h1; clear h1)
  have hz : wL.heap.size = b3 + 3 := HL.out.size
  have hb3 : b3 = W.heap.size := HL.out.at0
  have hbuW : bu < W.heap.size := HH.out.2.2.2.2.lt
  have hWc : Wc.heap.size ≤ b := HH.out.2.2.1.le
  obtain ⟨F, hF⟩ : ∃ F : Nat → Prop, F = fun k => k < Wc.heap.size ∨ k = b ∨ (b3 ≤ k ∧ k < b3 + 3) := ⟨_, rfl⟩
  have HFL : Hid (∀ k, F k → k < wL.heap.size) := fun k hk => by rw [hF] at hk; rw [hz]; have := HH.out.2.1.size; omega
  have HNB : Hid (¬ F bu) := by rw [hF]; show ¬ _; omega
  have hcF : ∀ W', Turns (fun k => ¬ F k) wL W' → ∀ k v, F k → wL.cell? ⟨k, 0, none⟩ = some v → W'.cell? ⟨k, 0, none⟩ = some v := fun W' ht k v hk hc =>
    (World.cell?_of_block (w := wL) (a := ⟨k, 0, none⟩) (ht.block k (World.block_lt_of_cell? wL _ hc) (fun h => h hk))).trans hc
  have HCX : Hid (∀ W', Turns (fun k => ¬ F k) wL W' → W'.cell? ⟨b, 0, none⟩ = some (TP t2)) := fun W' ht => hcF W' ht b _ (by rw [hF]; omega) ((HL.out.bel.cell (p := ⟨b, 0, none⟩) (World.block_lt_of_cell? _ _ cx)).trans cx)
  have h0I : ChI F wL t2 bu upR upT [] wL := by
    obtain ⟨P, hP, hk⟩ := HH.out.2.2.1.ex
    obtain ⟨P0, p1, p2, p3⟩ := (hP.below HL.out.bel).exact
    refine ⟨Turns.refl _ _, ⟨P0, p1, fun k hk0 => ?_, p3⟩, (HL.out.bel.block bu hbuW).trans HH.out.2.2.2.2, ⟨0, rfl, Nat.zero_le _⟩⟩
    have := hk k (p2 k hk0)
    rw [hF]
    exact ⟨by omega, by omega⟩
  have hTT : ∀ pre W', ChI F wL t2 bu upR upT pre W' → TabT b3 (b3 + 1) (b3 + 2) t2 ⟨#[]⟩ ⟨#[]⟩ upR (fun pre => nextA ⟨#[]⟩ ⟨#[]⟩ (upR pre) pre) 4 pre W' := fun pre W' hi => by
    refine ⟨?_, hcF W' hi.fr _ _ (by rw [hF]; omega) HL.out.c0, hcF W' hi.fr _ _ (by rw [hF]; omega) HL.out.c1, hcF W' hi.fr _ _ (by rw [hF]; omega) HL.out.c2, up_small pre, fun _ _ => ?_⟩
    · obtain ⟨P, hP, _⟩ := hi.ex
      exact ⟨P, hP.tab⟩
    · obtain ⟨m, rfl, hm⟩ := hi.told
      rw [List.length_take]
      have : upT.length = 3 := rfl
      omega
  have HBB : Hid (∀ W', Turns (fun k => ¬ F k) wL W' → Below Wc.heap.size Wc W') := fun W' ht => by
    have h1 := HH.out.2.1.trans (HL.out.bel.mono HH.out.2.1.size)
    refine h1.trans (ht.to_below (B := Wc.heap.size) h1.size (fun k hk => ?_))
    rw [hF] at hk
    omega
  have HD : Hid (∀ D, wL.heap.size ≤ D → Wc.heap.size ≤ D ∧ bu ≠ D ∧ b ≠ D) := fun D hD => ⟨by omega, by omega, by omega⟩
  have HBX : Hid (∀ W', Turns (fun k => ¬ F k) wL W' → Boxed W' b 23 (TP t2)) := fun W' ht => boxed_turns ((HL.out.bel.block b HH.out.2.2.1.box.lt).trans HH.out.2.2.1.box) ht (fun h => h (by rw [hF]; omega))
  have HFW : Hid (∀ k, k < Wc.heap.size → F k) := fun k hk => by rw [hF]; exact .inl hk
  have HFb : Hid (F b) := by rw [hF]; exact .inr (.inl rfl)
  clear hF hz hb3 hbuW hWc HL cx
  refine range_next (by omega) (gf := 43) (lb := #[.pointer (some ⟨b3, 0, none⟩), .pointer (some ⟨b3 + 1, 0, none⟩), .pointer (some ⟨b3 + 2, 0, none⟩)]) (All_next 4 (by omega) b3 (b3 + 1) (b3 + 2) t2 ⟨#[]⟩ ⟨#[]⟩ 4 upR) rfl (enters_of Try.func43 (by kernel_rfl) rfl) rfl
    (ChI F wL t2 bu upR upT) (fun _ _ _ => False) (ch_own HFL.out) (fun _ _ _ _ _ hs _ _ => hs) hTT h0I ?a1 ?assign ?body ?done ?stop
  case assign =>
    intro l x W K hK
    unfold encs
    gi_wp2
    exact hK
  clear hTT h0I hcF
  case body =>
    rintro l pre x W hi hx
    obtain ⟨m, hpre, hm⟩ := hi.told
    have hm' : m = 0 ∨ m = 1 ∨ m = 2 ∨ m = 3 := by have : upT.length = 3 := rfl; omega
    rcases hm' with rfl | rfl | rfl | rfl
    · obtain rfl : pre = [] := hpre
      obtain rfl : x = rowa := by have h := hx.symm.trans up0; injection h
      obtain ⟨s, hs⟩ : ∃ s, s = catK [] := ⟨_, rfl⟩
      have hss : s.size + (rowa).k.size ≤ 9223372036854775807 := by rw [hs]; decide
      have hb0 := hi.box
      rw [← hs] at hb0
      have c0 := hb0.cell
      have f0 := hb0.frozen
      have HJ := Lib.hid (hi.start.set HNB.out (catK [] ++ (rowa).k))
      rw [← hs] at HJ
      have cx := HCX.out _ HJ.out.fr
      have HS := Lib.hid hs
      clear hb0 hm hx hs hi
      have e97 : ((rowa).k.toList == [97]) = true := by simp [rowa, tl_lit]
      have e99 : ((rowa).k.toList == [99]) = false := by simp [rowa, tl_lit]
      have hsz : (W.setCell ⟨bu, 0, none⟩ (.string (s ++ (rowa).k))).heap.size = W.heap.size := by simp
      have ho := ops_new (W.setCell ⟨bu, 0, none⟩ (.string (s ++ (rowa).k))) 32 opsA #[.string ⟨#[98]⟩, .string ⟨#[]⟩, .bool true, .string ⟨#[99]⟩, .string ⟨#[51]⟩, .bool false, .string ⟨#[65]⟩, .string ⟨#[48]⟩, .bool false] rfl 3 rfl
      rw [hsz] at ho
      have HO := Lib.hid (And.intro ho hsz)
      clear ho hsz
      gi_wp2_with (refine ⟨trivial, ?_⟩; gi_at_call 14; refine (CallsIn.inRound l (callsIn_wide.2 (HJ.out.apply HFL.out (W' := (W.setCell ⟨bu, 0, none⟩ (.string (s ++ (rowa).k))).alloc (.cells #[.string ⟨#[98]⟩, .string ⟨#[]⟩, .bool true, .string ⟨#[99]⟩, .string ⟨#[51]⟩, .bool false, .string ⟨#[65]⟩, .string ⟨#[48]⟩, .bool false] 32)) ((Below.refl _ _).alloc (Nat.le_refl _) _) HO.out.1 (fun g o e _ => by injection e with e; injection e with e; rw [HO.out.2]; exact Nat.le_of_eq e) (by decide)))).mono ?_
                   rw [opsA_chk, show upR [] = chRows from rfl, opsA_app]; rintro e W3 ⟨rfl, h3⟩
                   have H3 := Lib.hid h3
                   clear h3)
      exact H3.out.ends (by rw [HS.out]; exact (catK_snoc _ _).symm) rfl ⟨1, rfl, by decide⟩
    · obtain rfl : pre = [rowa] := hpre
      obtain rfl : x = rowc := by have h := hx.symm.trans up1; injection h
      obtain ⟨s, hs⟩ : ∃ s, s = catK [rowa] := ⟨_, rfl⟩
      have hss : s.size + (rowc).k.size ≤ 9223372036854775807 := by rw [hs]; decide
      have hb0 := hi.box
      rw [← hs] at hb0
      have c0 := hb0.cell
      have f0 := hb0.frozen
      have HJ := Lib.hid (hi.start.set HNB.out (catK [rowa] ++ (rowc).k))
      rw [← hs] at HJ
      have cx := HCX.out _ HJ.out.fr
      have HS := Lib.hid hs
      clear hb0 hm hx hs hi
      have e97 : ((rowc).k.toList == [97]) = false := by simp [rowc, tl_lit]
      have e99 : ((rowc).k.toList == [99]) = true := by simp [rowc, tl_lit]
      have hsz : (W.setCell ⟨bu, 0, none⟩ (.string (s ++ (rowc).k))).heap.size = W.heap.size := by simp
      have ho := ops_new (W.setCell ⟨bu, 0, none⟩ (.string (s ++ (rowc).k))) 32 opsC #[.string ⟨#[99]⟩, .string ⟨#[]⟩, .bool true] rfl 1 rfl
      rw [hsz] at ho
      have HO := Lib.hid (And.intro ho hsz)
      clear ho hsz
      gi_wp2_with (refine ⟨trivial, ?_⟩; gi_at_call 14; refine (CallsIn.inRound l (callsIn_wide.2 (HJ.out.apply HFL.out (W' := (W.setCell ⟨bu, 0, none⟩ (.string (s ++ (rowc).k))).alloc (.cells #[.string ⟨#[99]⟩, .string ⟨#[]⟩, .bool true] 32)) ((Below.refl _ _).alloc (Nat.le_refl _) _) HO.out.1 (fun g o e _ => by injection e with e; injection e with e; rw [HO.out.2]; exact Nat.le_of_eq e) (by decide)))).mono ?_
                   rw [opsC_chk, show upR [rowa] = rs1 from rfl, opsC_app]; rintro e W3 ⟨rfl, h3⟩
                   have H3 := Lib.hid h3
                   clear h3)
      exact H3.out.ends (by rw [HS.out]; exact (catK_snoc _ _).symm) rfl ⟨2, rfl, by decide⟩
    · obtain rfl : pre = [rowa, rowc] := hpre
      obtain rfl : x = rowd := by have h := hx.symm.trans up2; injection h
      obtain ⟨s, hs⟩ : ∃ s, s = catK [rowa, rowc] := ⟨_, rfl⟩
      have hss : s.size + (rowd).k.size ≤ 9223372036854775807 := by rw [hs]; decide
      have hb0 := hi.box
      rw [← hs] at hb0
      have c0 := hb0.cell
      have f0 := hb0.frozen
      have HJ := Lib.hid (hi.start.set HNB.out (catK [rowa, rowc] ++ (rowd).k))
      rw [← hs] at HJ
      have cx := HCX.out _ HJ.out.fr
      have HS := Lib.hid hs
      clear hb0 hm hx hs hi
      have e97 : ((rowd).k.toList == [97]) = false := by simp [rowd, tl_lit]
      have e99 : ((rowd).k.toList == [99]) = false := by simp [rowd, tl_lit]
      gi_wp2_with fail
      exact HJ.out.ends (by rw [HS.out]; exact (catK_snoc _ _).symm) rfl ⟨3, rfl, by decide⟩
    · obtain rfl : pre = [rowa, rowc, rowd] := hpre
      have h := hx.symm.trans up3
      cases h
  case done =>
    rintro D ys W' hD hend hi hK
    have hys : ys = upT := by
      obtain ⟨m, hpre, hm⟩ := hi.told
      have hm' : m = 0 ∨ m = 1 ∨ m = 2 ∨ m = 3 := by have : upT.length = 3 := rfl; omega
      rcases hm' with rfl | rfl | rfl | rfl
      · obtain rfl : ys = [] := hpre
        have h := hend.symm.trans up0
        cases h
      · obtain rfl : ys = [rowa] := hpre
        have h := hend.symm.trans up1
        cases h
      · obtain rfl : ys = [rowa, rowc] := hpre
        have h := hend.symm.trans up2
        cases h
      · exact hpre
    subst hys
    have hcat : catK upT = ⟨#[97, 99, 100]⟩ := cat_lit _ _ rfl
    have HE : Hid (Below Wc.heap.size Wc W' ∧ ChE Wc t2 b bu ⟨#[97, 99, 100]⟩ rs2 W' ∧ Wc.heap.size ≤ D) := by
      obtain ⟨P, hP, hk, hkk⟩ := hi.ex
      refine ⟨HBB.out W' hi.fr, ⟨⟨P, hP, fun k hk0 => ⟨?_, ?_, (hk k hk0).2⟩, hkk⟩, HH.out.2.2.1.le, hbu, HBX.out W' hi.fr, hcat ▸ hi.box⟩, (HD.out D hD).1⟩
      · exact Nat.le_of_not_lt fun hlt => (hk k hk0).1 (HFW.out k hlt)
      · exact fun e => (hk k hk0).1 (e ▸ HFb.out)
    have HKD := Lib.hid hK
    clear hi hK hend hD
    gi_wp2_with fail
    exact HC.out _ W' D HE.out.1 HE.out.2.1 HKD.out HE.out.2.2 rfl rfl rfl rfl rfl rfl rfl
  case stop =>
    rintro D c' pre W' _ h _
    exact h.elim

end Tb
end Go.Proofs.Ytoglklldclgcbaa
