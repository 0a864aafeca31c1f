/-
  Walk: TableKnown, its fourth part: the chapter's table turned while Back tells it.
-/
import Derived.Test.YtoglklldclgcbaaTbKnC
namespace Go.Proofs.Ytoglklldclgcbaa
open Go.RowKit Go.Shelf Sk
namespace Tb
attribute [local go_sem] Oper.semAt_some

set_option maxRecDepth 100000 in
set_option maxHeartbeats 4000000 in
theorem kn_4 (c : Code) (Q : Exit → Act → World → Prop) (A : Array Value) (Wc W : World) (t t2 b bu D1 : Nat) (hbl : Below Wc.heap.size Wc W) (hch : ChE Wc t2 b bu ⟨#[97, 99, 100]⟩ rs2 W) (hD : W.heap[D1]? = some (.deferred (some []))) (hDl : Wc.heap.size ≤ D1) (hsz : A.size = 225)
    (h3 : A[3]? = some (TP t)) (h9 : A[9]? = some (.bool true)) (h11 : A[11]? = some (.int .i64 0)) (h12 : A[12]? = some (.int .i64 0)) (h13 : A[13]? = some (.pointer (some ⟨b, 0, none⟩))) (h14 : A[14]? = some (.pointer (some ⟨bu, 0, none⟩)))
    (hc : ∀ (A' : Array Value) (W' : World) (bd D2 : Nat), Below Wc.heap.size Wc W' → Boxed W' bu 9 (.string ⟨#[97, 99, 100]⟩) → Boxed W' bd 9 (.string ⟨#[100, 99, 97, 65]⟩) → W'.heap[D1]? = some (.deferred (some [])) → W'.heap[D2]? = some (.deferred (some [])) → Wc.heap.size ≤ D2 → D1 ≠ D2 →
      A'.size = 225 → A'[3]? = some (TP t) → A'[9]? = some (.bool true) → A'[11]? = some (.int .i64 0) → A'[12]? = some (.int .i64 0) → A'[14]? = some (.pointer (some ⟨bu, 0, none⟩)) → A'[16]? = some (.pointer (some ⟨bd, 0, none⟩)) → c.wpIn Fence.wide 5 Try.prog Q ⟨A', [⟨.collected D2, #[]⟩, ⟨.collected D1, #[]⟩]⟩ W') :
    (kput 2 (ktail 17 kb) c).wpIn Fence.wide 5 Try.prog Q ⟨A, [⟨.collected D1, #[]⟩]⟩ W := by
  obtain ⟨u, rfl, hu⟩ := lay225 A hsz
  rw [hu 3 _ h3, hu 9 _ h9, hu 11 _ h11, hu 12 _ h12, hu 13 _ h13, hu 14 _ h14]
  have HC := Lib.hid hc
  obtain ⟨W0, hW0⟩ : ∃ X, W.alloc (.cells #[.string ⟨#[]⟩] 9) = X := ⟨_, rfl⟩
  obtain ⟨bd, hbd⟩ : ∃ d, W.heap.size = d := ⟨_, rfl⟩
  have HW0 : Hid (Below W.heap.size W W0 ∧ Boxed W0 bd 9 (.string ⟨#[]⟩) ∧ W0.heap.size = bd + 1) := by
    subst hW0 hbd
    exact ⟨(Below.refl _ _).alloc (Nat.le_refl _) _, Boxed.new _ _ _, by simp⟩
  have cx : W0.cell? ⟨b, 0, none⟩ = some (TP t2) := (HW0.out.1.cell (p := ⟨b, 0, none⟩) hch.box.lt).trans hch.box.cell
  have cx0 : (W.alloc (.cells #[.string ⟨#[]⟩] 9)).cell? ⟨b, 0, none⟩ = some (TP t2) := by rw [hW0]; exact cx
  have HWE := Lib.hid (And.intro hW0 hbd)
  have HA := callsIn_wide (n := 4).2 (Back_tbx t2 ⟨#[]⟩ ⟨#[]⟩ W0)
  have HH := Lib.hid (And.intro hbl (And.intro hch (And.intro hD hDl)))
  clear hc h3 h9 h11 h12 h13 h14 hu hsz hbl hch hD hDl hW0 hbd
  simp only [kb, ktail, kput, Try.f11, Option.getD_some]
  gi_wp2_with (refine ⟨trivial, ?_⟩; gi_at_call 29; rw [HWE.out.1]; refine HA.mono ?_; clear HA; rintro e wL ⟨b3, rfl, h1⟩; have HL := Lib.hid h1; clear h1)
  have hbd := HWE.out.2
  rw [hbd]
  have hz : wL.heap.size = b3 + 3 := HL.out.size
  have hb3 : b3 = bd + 1 := HL.out.at0.trans HW0.out.2.2
  have hbW : b < bd := by rw [← hbd]; exact HH.out.2.1.box.lt
  have hbuW : bu < bd := by rw [← hbd]; exact HH.out.2.1.up.lt
  have hDW : D1 < bd := by rw [← hbd]; exact (Array.getElem?_eq_some_iff.1 HH.out.2.2.1).1
  have hWc : Wc.heap.size ≤ bd := by rw [← hbd]; exact HH.out.1.size
  have hWL : Below W.heap.size W wL := HW0.out.1.trans (HL.out.bel.mono HW0.out.1.size)
  obtain ⟨F, hF⟩ : ∃ F : Nat → Prop, F = fun k => k < Wc.heap.size ∨ k = b ∨ k = bu ∨ k = D1 ∨ (b3 ≤ k ∧ k < b3 + 3) := ⟨_, rfl⟩
  have HFL : Hid (∀ k, F k → k < wL.heap.size) := fun k hk => by rw [hF] at hk; rw [hz]; omega
  have HNB : Hid (¬ F bd) := by rw [hF]; show ¬ _; have := HH.out.2.2.2; omega
  have hcF : ∀ W', Turns (fun k => ¬ F k) wL W' → ∀ k v, F k → wL.cell? ⟨k, 0, none⟩ = some v → W'.cell? ⟨k, 0, none⟩ = some v := fun W' ht k v hk hc =>
    (World.cell?_of_block (w := wL) (a := ⟨k, 0, none⟩) (ht.block k (World.block_lt_of_cell? wL _ hc) (fun h => h hk))).trans hc
  have HCX : Hid (∀ W', Turns (fun k => ¬ F k) wL W' → W'.cell? ⟨b, 0, none⟩ = some (TP t2)) := fun W' ht => hcF W' ht b _ (by rw [hF]; omega) ((HL.out.bel.cell (p := ⟨b, 0, none⟩) (World.block_lt_of_cell? _ _ cx)).trans cx)
  have h0I : ChI F wL t2 bd dnR dnT [] wL := by
    obtain ⟨P, hP, hk, hkk⟩ := HH.out.2.1.ex
    refine ⟨Turns.refl _ _, ⟨P, hP.below hWL, fun k hk0 => ?_, fun k hk0 => ?_⟩, (HL.out.bel.block bd HW0.out.2.1.lt).trans HW0.out.2.1, ⟨0, rfl, Nat.zero_le _⟩⟩
    · have h1 := hk k hk0
      have h2 := hP.lt k hk0
      rw [hbd] at h2
      have h3 : k ≠ D1 := fun e => by
        obtain ⟨T, hT⟩ := hkk k hk0
        rw [e, kind_cells HH.out.2.2.1 rfl] at hT
        cases hT
      rw [hF]
      exact ⟨by omega, by omega⟩
    · obtain ⟨T, hT⟩ := hkk k hk0
      refine ⟨T, ?_⟩
      unfold kindOf
      rw [hWL.block k (hP.lt k hk0)]
      exact hT
  have hTT : ∀ pre W', ChI F wL t2 bd dnR dnT pre W' → TabT b3 (b3 + 1) (b3 + 2) t2 ⟨#[]⟩ ⟨#[]⟩ dnR (fun pre => nextB ⟨#[]⟩ ⟨#[]⟩ (dnR pre) pre) 5 pre W' := fun pre W' hi => by
    refine ⟨?_, hcF W' hi.fr _ _ (by rw [hF]; omega) HL.out.c0, hcF W' hi.fr _ _ (by rw [hF]; omega) HL.out.c1, hcF W' hi.fr _ _ (by rw [hF]; omega) HL.out.c2, dn_small pre, fun _ _ => ?_⟩
    · obtain ⟨P, hP, _⟩ := hi.ex
      exact ⟨P, hP.tab⟩
    · obtain ⟨m, rfl, hm⟩ := hi.told
      rw [List.length_take]
      have : dnT.length = 4 := rfl
      omega
  have HBB : Hid (∀ W', Turns (fun k => ¬ F k) wL W' → Below Wc.heap.size Wc W') := fun W' ht => by
    have h1 := HH.out.1.trans (hWL.mono HH.out.1.size)
    refine h1.trans (ht.to_below (B := Wc.heap.size) h1.size (fun k hk => ?_))
    rw [hF] at hk
    omega
  have HD : Hid (∀ D, wL.heap.size ≤ D → Wc.heap.size ≤ D ∧ D1 ≠ D) := fun D hD => ⟨by omega, by omega⟩
  have HBX : Hid (∀ W', Turns (fun k => ¬ F k) wL W' → Boxed W' bu 9 (.string ⟨#[97, 99, 100]⟩) ∧ W'.heap[D1]? = some (.deferred (some []))) := fun W' ht =>
    ⟨boxed_turns ((hWL.block bu HH.out.2.1.up.lt).trans HH.out.2.1.up) ht (fun h => h (by rw [hF]; omega)),
      (ht.block D1 (by rw [hz]; omega) (fun h => h (by rw [hF]; omega))).trans ((hWL.block D1 (by rw [hbd]; exact hDW)).trans HH.out.2.2.1)⟩
  clear hF hz hb3 hbW hbuW hDW hWc HL cx cx0 hWL hbd
  refine range_next (by omega) (gf := 45) (lb := #[.pointer (some ⟨b3, 0, none⟩), .pointer (some ⟨b3 + 2, 0, none⟩), .pointer (some ⟨b3 + 1, 0, none⟩)]) (Back_next 4 (by omega) b3 (b3 + 1) (b3 + 2) t2 ⟨#[]⟩ ⟨#[]⟩ 5 dnR) rfl (enters_of Try.func45 (by kernel_rfl) rfl) rfl
    (ChI F wL t2 bd dnR dnT) (fun _ _ _ => False) (ch_own HFL.out) (fun _ _ _ _ _ hs _ _ => hs) hTT h0I ?a1 ?assign ?body ?done ?stop
  case assign =>
    intro l x W K hK
    unfold encs
    gi_wp2
    exact hK
  clear hTT h0I hcF
  case body =>
    rintro l pre x W hi hx
    obtain ⟨m, hpre, hm⟩ := hi.told
    have hm' : m = 0 ∨ m = 1 ∨ m = 2 ∨ m = 3 ∨ m = 4 := by have : dnT.length = 4 := rfl; omega
    rcases hm' with rfl | rfl | rfl | rfl | rfl
    · obtain rfl : pre = [] := hpre
      obtain rfl : x = rowd := by have h := hx.symm.trans dn0; injection h
      obtain ⟨s, hs⟩ : ∃ s, s = catK [] := ⟨_, rfl⟩
      have hss : s.size + (rowd).k.size ≤ 9223372036854775807 := by rw [hs]; decide
      have hb0 := hi.box
      rw [← hs] at hb0
      have c0 := hb0.cell
      have f0 := hb0.frozen
      have HJ := Lib.hid (hi.start.set HNB.out (catK [] ++ (rowd).k))
      rw [← hs] at HJ
      have cx := HCX.out _ HJ.out.fr
      have HS := Lib.hid hs
      clear hb0 hm hx hs hi
      have e100 : ((rowd).k.toList == [100]) = true := by simp [rowd, tl_lit]
      have hsz : (W.setCell ⟨bd, 0, none⟩ (.string (s ++ (rowd).k))).heap.size = W.heap.size := by simp
      have ho := ops_new (W.setCell ⟨bd, 0, none⟩ (.string (s ++ (rowd).k))) 32 opsD #[.string ⟨#[100]⟩, .string ⟨#[]⟩, .bool true, .string ⟨#[101]⟩, .string ⟨#[53]⟩, .bool false, .string ⟨#[99]⟩, .string ⟨#[54]⟩, .bool false] rfl 3 rfl
      rw [hsz] at ho
      have HO := Lib.hid (And.intro ho hsz)
      clear ho hsz
      gi_wp2_with (refine ⟨trivial, ?_⟩; gi_at_call 14; refine (CallsIn.inRound l (callsIn_wide.2 (HJ.out.apply HFL.out (W' := (W.setCell ⟨bd, 0, none⟩ (.string (s ++ (rowd).k))).alloc (.cells #[.string ⟨#[100]⟩, .string ⟨#[]⟩, .bool true, .string ⟨#[101]⟩, .string ⟨#[53]⟩, .bool false, .string ⟨#[99]⟩, .string ⟨#[54]⟩, .bool false] 32)) ((Below.refl _ _).alloc (Nat.le_refl _) _) HO.out.1 (fun g o e _ => by injection e with e; injection e with e; rw [HO.out.2]; exact Nat.le_of_eq e) (by decide)))).mono ?_
                   rw [opsD_chk, show dnR [] = rs2 from rfl, opsD_app]; rintro e W3 ⟨rfl, h3⟩
                   have H3 := Lib.hid h3
                   clear h3)
      exact H3.out.ends (by rw [HS.out]; exact (catK_snoc _ _).symm) rfl ⟨1, rfl, by decide⟩
    · obtain rfl : pre = [rowd] := hpre
      obtain rfl : x = rowc6 := by have h := hx.symm.trans dn1; injection h
      obtain ⟨s, hs⟩ : ∃ s, s = catK [rowd] := ⟨_, rfl⟩
      have hss : s.size + (rowc6).k.size ≤ 9223372036854775807 := by rw [hs]; decide
      have hb0 := hi.box
      rw [← hs] at hb0
      have c0 := hb0.cell
      have f0 := hb0.frozen
      have HJ := Lib.hid (hi.start.set HNB.out (catK [rowd] ++ (rowc6).k))
      rw [← hs] at HJ
      have cx := HCX.out _ HJ.out.fr
      have HS := Lib.hid hs
      clear hb0 hm hx hs hi
      have e100 : ((rowc6).k.toList == [100]) = false := by simp [rowc6, tl_lit]
      gi_wp2_with fail
      exact HJ.out.ends (by rw [HS.out]; exact (catK_snoc _ _).symm) rfl ⟨2, rfl, by decide⟩
    · obtain rfl : pre = [rowd, rowc6] := hpre
      obtain rfl : x = rowa := by have h := hx.symm.trans dn2; injection h
      obtain ⟨s, hs⟩ : ∃ s, s = catK [rowd, rowc6] := ⟨_, rfl⟩
      have hss : s.size + (rowa).k.size ≤ 9223372036854775807 := by rw [hs]; decide
      have hb0 := hi.box
      rw [← hs] at hb0
      have c0 := hb0.cell
      have f0 := hb0.frozen
      have HJ := Lib.hid (hi.start.set HNB.out (catK [rowd, rowc6] ++ (rowa).k))
      rw [← hs] at HJ
      have cx := HCX.out _ HJ.out.fr
      have HS := Lib.hid hs
      clear hb0 hm hx hs hi
      have e100 : ((rowa).k.toList == [100]) = false := by simp [rowa, tl_lit]
      gi_wp2_with fail
      exact HJ.out.ends (by rw [HS.out]; exact (catK_snoc _ _).symm) rfl ⟨3, rfl, by decide⟩
    · obtain rfl : pre = [rowd, rowc6, rowa] := hpre
      obtain rfl : x = rowA := by have h := hx.symm.trans dn3; injection h
      obtain ⟨s, hs⟩ : ∃ s, s = catK [rowd, rowc6, rowa] := ⟨_, rfl⟩
      have hss : s.size + (rowA).k.size ≤ 9223372036854775807 := by rw [hs]; decide
      have hb0 := hi.box
      rw [← hs] at hb0
      have c0 := hb0.cell
      have f0 := hb0.frozen
      have HJ := Lib.hid (hi.start.set HNB.out (catK [rowd, rowc6, rowa] ++ (rowA).k))
      rw [← hs] at HJ
      have cx := HCX.out _ HJ.out.fr
      have HS := Lib.hid hs
      clear hb0 hm hx hs hi
      have e100 : ((rowA).k.toList == [100]) = false := by simp [rowA, tl_lit]
      gi_wp2_with fail
      exact HJ.out.ends (by rw [HS.out]; exact (catK_snoc _ _).symm) rfl ⟨4, rfl, by decide⟩
    · obtain rfl : pre = [rowd, rowc6, rowa, rowA] := hpre
      have h := hx.symm.trans dn4
      cases h
  case done =>
    rintro D ys W' hD hend hi hK
    have hys : ys = dnT := by
      obtain ⟨m, hpre, hm⟩ := hi.told
      have hm' : m = 0 ∨ m = 1 ∨ m = 2 ∨ m = 3 ∨ m = 4 := by have : dnT.length = 4 := rfl; omega
      rcases hm' with rfl | rfl | rfl | rfl | rfl
      · obtain rfl : ys = [] := hpre
        have h := hend.symm.trans dn0
        cases h
      · obtain rfl : ys = [rowd] := hpre
        have h := hend.symm.trans dn1
        cases h
      · obtain rfl : ys = [rowd, rowc6] := hpre
        have h := hend.symm.trans dn2
        cases h
      · obtain rfl : ys = [rowd, rowc6, rowa] := hpre
        have h := hend.symm.trans dn3
        cases h
      · exact hpre
    subst hys
    have hcat : catK dnT = ⟨#[100, 99, 97, 65]⟩ := cat_lit _ _ rfl
    have HE : Hid (Below Wc.heap.size Wc W' ∧ Boxed W' bu 9 (.string ⟨#[97, 99, 100]⟩) ∧ Boxed W' bd 9 (.string ⟨#[100, 99, 97, 65]⟩) ∧ W'.heap[D1]? = some (.deferred (some [])) ∧ Wc.heap.size ≤ D ∧ D1 ≠ D) :=
      ⟨HBB.out W' hi.fr, (HBX.out W' hi.fr).1, hcat ▸ hi.box, (HBX.out W' hi.fr).2, HD.out D hD⟩
    have HKD := Lib.hid hK
    clear hi hK hend hD
    gi_wp2_with fail
    exact HC.out _ W' bd D HE.out.1 HE.out.2.1 HE.out.2.2.1 HE.out.2.2.2.1 HKD.out HE.out.2.2.2.2.1 HE.out.2.2.2.2.2 rfl rfl rfl rfl rfl rfl rfl
  case stop =>
    rintro D c' pre W' _ h _
    exact h.elim

end Tb
end Go.Proofs.Ytoglklldclgcbaa
