/-
  Walk: the law TableStops.
-/
import Derived.Test.YtoglklldclgcbaaTbSeedsWalk
import Derived.Test.YtoglklldclgcbaaTbMapWalk
import Derived.Test.YtoglklldclgcbaaTbCopy
import Derived.Test.YtoglklldclgcbaaBring
namespace Go.Proofs.Ytoglklldclgcbaa
open Go.RowKit Go.Shelf Sk
namespace Tb
attribute [local go_sem] Oper.semAt_some

/-- a loop that may be left by one exit: both ways go on alike -/
theorem wpIn_out {F : Fence} {n j : Nat} {c : Code} {Q : Exit → Act → World → Prop} {R : Act → World → Prop} {a : Act} {w : World} (hj : ∀ a w, Q .normal a w → Q (.exit j) a w)
    (hc : c.wpIn F n Try.prog (fun e a' w' => (e = .normal ∨ e = .exit j) ∧ R a' w') a w) (hk : ∀ a' w', R a' w' → Q .normal a' w') : c.wpIn F n Try.prog Q a w :=
  wpIn_mono hc (by
    rintro e a' w' ⟨rfl | rfl, h⟩
    · exact hk _ _ h
    · exact hj _ _ (hk _ _ h))

/-- a loop that counts up to nn, and is left there -/
theorem count_loop {gf : Nat} {lb : Array Value} {S Sp : List Row → Prop} {N m bu nn j : Nat} {g : Operand} {ps : Array Tmp} {body : Code} {a : Act} {w : World}
    (hseq : SeqStopsK Fence.wide 4 Try.prog gf lb encs (Turns (fun k => k = bu ∨ w.heap.size ≤ k)) S Sp N w) (hS : ∀ ys, S ys → ys.length = m) (hnn : nn ≤ m)
    (hg : a.eval g = .func (.func gf) #[] lb) (eg : ∀ args w, (callFunc gf args).run Try.prog w = .ok (.enter gf args) w) (hps : ∀ x, (encs x).size = ps.size) (hbu : Boxed w bu 3 (.int .i64 0))
    (hbody : ∀ (l : Nat) (x : Row) (W : World) (k : Nat), Turns (fun k => k = bu) w W → Boxed W bu 3 (.int .i64 k) → k ≤ nn →
      body.wpIn (Fence.wide.inRound l) 3 Try.prog (fun e _ W' => if k = nn then e = .exit j ∧ W' = W else e = .normal ∧ W' = W.setCell ⟨bu, 0, none⟩ (.int .i64 ((k : Int) + 1))) { tmps := (ps.zip (encs x)).foldl (fun t (p, v) => t.setIfInBounds p v) a.tmps, defers := [] } W) :
    (Code.rangeFunc g ps Code.skip body).wpIn Fence.wide 5 Try.prog (fun e a' w' => (e = .normal ∨ e = .exit j) ∧ ∃ D, a' = { a with defers := { target := .collected D, args := #[] } :: a.defers } ∧ w.heap.size ≤ D ∧ w'.heap[D]? = some (.deferred (some [])) ∧ Turns (fun k => k = bu) w w' ∧ Boxed w' bu 3 (.int .i64 nn)) a w := by
  have hbl := hbu.lt
  have hT : ∀ {W W' : World} {row : Option Nat}, Turns (fun k => k = bu) w W → W.grownBy W' row → (∀ r, row = some r → w.heap.size ≤ r ∧ ∃ o : Obj, W.heap[r]? = some o ∧ o.isCells = false) → Turns (fun k => k = bu) w W' := fun ht hg hr =>
    ht.trans (Turns.of_grown hg) (fun k hk e => by have := (hr k e).1; omega)
  have hX : ∀ {W W' : World} {row : Option Nat} {v : Value}, Boxed W bu 3 v → W.grownBy W' row → (∀ r, row = some r → w.heap.size ≤ r ∧ ∃ o : Obj, W.heap[r]? = some o ∧ o.isCells = false) → Boxed W' bu 3 v := fun hb hg hr =>
    hb.kept hg (fun e => by have := (hr bu e.symm).1; omega)
  refine wpIn_rangeFunc_ownF rfl (by omega) hg trivial eg hseq turnsK_t (turnsK_b (fun l hl => .inr hl)) (Below.refl _ _) hps
    (fun pre W => Turns (fun k => k = bu) w W ∧ Boxed W bu 3 (.int .i64 (pre.length : Nat)) ∧ pre.length ≤ nn)
    (fun c _ W => c = .exit j ∧ Turns (fun k => k = bu) w W ∧ Boxed W bu 3 (.int .i64 nn))
    (fun pre W W' row h hg hr => ⟨hT h.1 hg hr, hX h.2.1 hg hr, h.2.2⟩) (fun c pre W W' row h hg hr => ⟨h.1, hT h.2.1 hg hr, hX h.2.2 hg hr⟩)
    ⟨Turns.refl _ _, hbu, Nat.zero_le _⟩ (fun x => { tmps := (ps.zip (encs x)).foldl (fun t (p, v) => t.setIfInBounds p v) a.tmps, defers := [] }) (fun l x W K hK => wpIn_skip hK) ?body ?done ?stop
  case body =>
    rintro l pre x W ⟨ht, hb, hle⟩ _
    refine wpIn_mono (hbody l x W pre.length ht hb hle) ?_
    rintro e a' W' h
    by_cases he : pre.length = nn
    · rw [if_pos he] at h
      obtain ⟨rfl, rfl⟩ := h
      exact ⟨KeepsOthers.refl _, rfl, ht, he ▸ hb⟩
    · rw [if_neg he] at h
      obtain ⟨rfl, rfl⟩ := h
      have hst : Turns (fun k => k = bu) W (W.setCell ⟨bu, 0, none⟩ (.int .i64 ((pre.length : Int) + 1))) := (Turns.refl (fun k => k = bu) W).setCell (p := ⟨bu, 0, none⟩) (fun _ => rfl) _
      refine ⟨KeepsOthers.setCell _ _ _, hst.mono (fun _ _ h => .inl h), ht.trans hst (fun _ _ h => h), ?_, by simp; omega⟩
      have := hb.set (.int .i64 ((pre.length : Int) + 1))
      simpa using this
  case done =>
    rintro D ys W hD hys ⟨ht, hb, hle⟩ hK
    have h1 := hS ys hys
    have h2 : ys.length = nn := by omega
    rw [h2] at hb
    exact ⟨.inl rfl, D, rfl, hD, hK, ht, hb⟩
  case stop =>
    rintro D c pre W hD _ ⟨rfl, ht, hb⟩ hK
    exact wpIn_exit ⟨.inr rfl, D, rfl, hD, hK, ht, hb⟩

set_option maxRecDepth 100000 in
set_option maxHeartbeats 8000000 in
theorem stops_walk (A : Option Addr) (len cap : Nat) (ls : List (List Chg)) (many : Int) (w : World) (hb : Bts w A len cap ls) (hf : ∀ l ∈ ls, ∀ o ∈ l, Chg.Fine o) (hk : ∀ l ∈ ls, ∀ o ∈ l, o.k.size ≤ reachBytes) :
    Calls Try.prog 9 #[.slice A len cap, .int .i64 many] w fun e w' => e = .returned (.bool true) ∧ Below w.heap.size w w' := by
  refine (callsIn_wide (n := 5)).1 ?_
  refine callsIn_of_wp_marks Try.func9 rfl trivial ?_ rfl
  simp only [Try.ntmps9, List.size_toArray, List.length_cons, List.length_nil, Nat.reduceAdd, Nat.reduceSub, Array.replicate_succ, Array.replicate_zero, List.push_toArray, List.append_toArray, List.nil_append, List.cons_append]
  have HB := Lib.hid (And.intro hb hf)
  have HR := Lib.hid (min_rows ls (min len 30) (Nat.min_le_right _ _) hk)
  clear hb hf hk
  gi_wp2_with (first
    | (refine ⟨trivial, ?_⟩; gi_at_call 20; refine (callsIn_wide.2 (works_any w)).mono ?_; rintro e w1 ⟨rfl, hb1⟩
       have H1 := Lib.hid hb1
       clear hb1)
    | (refine ⟨trivial, ?_⟩; gi_at_call 27; refine (callsIn_wide.2 (made_any A len cap ls 2 w1 (HB.out.1.below H1.out) HB.out.2)).mono ?_; rintro e w2 ⟨t, b, rfl, htm, hb2⟩
       obtain ⟨rs, hrs⟩ : ∃ rs, tRows ls (min len 30) = rs := ⟨_, rfl⟩
       rw [hrs] at htm
       have hrun := htm.mp.len_run
       have HR2 := Lib.hid (hrs ▸ HR.out)
       have hrl := HR2.out.2.2
       have hm1 : (rs.length : Int) ≤ 3840 := by omega
       have hw1 : IntKind.i64.wrap ((rs.length : Int) + 1) = (rs.length : Int) + 1 := IntWalk.i64_in _ (by omega)
       have H2 := Lib.hid (And.intro htm (H1.out.trans (hb2.mono H1.out.size)))
       clear hrl htm hb2 hrs)
    | (refine ⟨trivial, ?_⟩; gi_at_call 28; refine (callsIn_wide.2 (Br.Bring_any many _ _ (by omega) (by omega))).mono ?_; rintro e w3 ⟨rfl, rfl⟩)
    | (refine ⟨trivial, ?_⟩; gi_at_call 26; refine (callsIn_wide.2 (All_tbx t ⟨#[]⟩ ⟨#[]⟩ _)).mono ?_; rintro e w4 ⟨b4, rfl, h4⟩; have H4 := Lib.hid h4; clear h4)
    | (refine ⟨trivial, ?_⟩; gi_at_call 29; refine (callsIn_wide.2 (Back_tbx t ⟨#[]⟩ ⟨#[]⟩ _)).mono ?_; rintro e w5 ⟨b5, rfl, h5⟩; have H5 := Lib.hid h5; clear h5))
  obtain ⟨nn, hnn, hnm⟩ : ∃ nn : Nat, many % ((rs.length : Int) + 1) = (nn : Int) ∧ nn ≤ rs.length := by
    have h0 : 0 ≤ many % ((rs.length : Int) + 1) := Int.emod_nonneg _ (by omega)
    have h1 : many % ((rs.length : Int) + 1) < (rs.length : Int) + 1 := Int.emod_lt_of_pos _ (by omega)
    exact ⟨(many % ((rs.length : Int) + 1)).toNat, by omega, by omega⟩
  rw [hnn]
  have HN5 : Hid (Below w.heap.size w w5 ∧ w5.cell? ⟨w2.heap.size, 0, none⟩ = some (.int .i64 nn) ∧ (∃ P, At P w5 t rs) ∧ (w5.cell? ⟨b4, 0, none⟩ = some (TP t) ∧ w5.cell? ⟨b4 + 1, 0, none⟩ = some (.string ⟨#[]⟩) ∧ w5.cell? ⟨b4 + 2, 0, none⟩ = some (.string ⟨#[]⟩)) ∧
      (w5.cell? ⟨b5, 0, none⟩ = some (TP t) ∧ w5.cell? ⟨b5 + 1, 0, none⟩ = some (.string ⟨#[]⟩) ∧ w5.cell? ⟨b5 + 2, 0, none⟩ = some (.string ⟨#[]⟩))) := by
    have h3 : Below w2.heap.size w2 (w2.alloc (.cells #[.int .i64 (many % ((rs.length : Int) + 1))] 3)) := (Below.refl _ _).alloc (Nat.le_refl _) _
    have h4 := H4.out.bel
    have h5 := H5.out.bel
    have hk : (w2.alloc (.cells #[.int .i64 (many % ((rs.length : Int) + 1))] 3)).cell? ⟨w2.heap.size, 0, none⟩ = some (.int .i64 nn) := by rw [hnn]; exact (Boxed.new w2 _ _).cell
    have h35 := h4.trans (h5.mono h4.size)
    have hc : ∀ b v, w4.cell? ⟨b, 0, none⟩ = some v → w5.cell? ⟨b, 0, none⟩ = some v := fun b v h => (h5.cell (p := ⟨b, 0, none⟩) (World.block_lt_of_cell? _ _ h)).trans h
    obtain ⟨P, hP⟩ := H2.out.1.tab
    exact ⟨H2.out.2.trans ((h3.trans (h35.mono h3.size)).mono H2.out.2.size), (h35.cell (p := ⟨w2.heap.size, 0, none⟩) (World.block_lt_of_cell? _ _ hk)).trans hk, ⟨P, (hP.below h3).below h35⟩, ⟨hc _ _ H4.out.c0, hc _ _ H4.out.c1, hc _ _ H4.out.c2⟩, H5.out.c0, H5.out.c1, H5.out.c2⟩
  have HRS := Lib.hid (show (flt ⟨#[]⟩ ⟨#[]⟩ rs).length = rs.length from by
    have h := btw_all H2.out.1.srt
    rw [btw_flt H2.out.1.srt] at h
    rw [h])
  generalize w2.heap.size = s2 at *
  clear hrun hw1 hnn H4 H5 H2
  refine wpIn_loop_rounds 3 ?_
  rw [roundsIn_succ]
  gi_wp2_with fail
  have HC5 := Lib.hid (show ∀ W b v, Below w5.heap.size w5 W → w5.cell? ⟨b, 0, none⟩ = some v → W.cell? ⟨b, 0, none⟩ = some v from fun W b v hb hc => (hb.cell (p := ⟨b, 0, none⟩) (World.block_lt_of_cell? _ _ hc)).trans hc)
  have HBT : Hid ((btw ⟨#[]⟩ ⟨#[]⟩ rs).length = rs.length) := by
    obtain ⟨Pt, hPt⟩ := HN5.out.2.2.1
    show _ = _
    rw [btw_all hPt.tab.srt]
  obtain ⟨Wa1, hWa1⟩ : ∃ Wa, (w5.alloc (.cells #[.int .i64 0] 3)).alloc (.cells #[.int .i64 0] 3) = Wa := ⟨_, rfl⟩
  rw [hWa1]
  obtain ⟨S1, hSr⟩ : ∃ S, S = w5.heap.size := ⟨_, rfl⟩
  rw [← hSr]
  have hA1 : Hid (Below w5.heap.size w5 Wa1 ∧ Boxed Wa1 S1 3 (.int .i64 0) ∧ Boxed Wa1 (S1 + 1) 3 (.int .i64 0) ∧ Wa1.heap.size = S1 + 2) := by
    rw [← hWa1, hSr]
    refine ⟨((Below.refl _ w5).alloc (Nat.le_refl _) _).alloc (by simp) _, (Boxed.new w5 _ _).alloc _, ?_, by simp⟩
    have := Boxed.new (w5.alloc (.cells #[.int .i64 0] 3)) 3 (.int .i64 0)
    simpa using this
  have HZ1 := Lib.hid (show w5.heap.size ≤ S1 by omega)
  have HS1 := Lib.hid hA1.out.1
  clear hWa1 hSr
  refine wpIn_out (j := 2) (fun _ _ h => h) (count_loop (gf := 43) (lb := #[.pointer (some ⟨b4, 0, none⟩), .pointer (some ⟨b4 + 1, 0, none⟩), .pointer (some ⟨b4 + 2, 0, none⟩)]) (bu := S1) (nn := nn) (m := rs.length) (N := rs.length) (S := fun ys => ys = btw ⟨#[]⟩ ⟨#[]⟩ rs) (Sp := fun pre => pre <+: btw ⟨#[]⟩ ⟨#[]⟩ rs) ?hseq1 ?hS1 hnm rfl (enters_of Try.func43 (by kernel_rfl) rfl) (fun _ => rfl) hA1.out.2.1 ?hbody1) ?_
  case hseq1 =>
    obtain ⟨Pt, hPt⟩ := HN5.out.2.2.1
    have hz := HS1.out.size
    have hs5 := HZ1.out
    have hl0 := World.block_lt_of_cell? _ _ HN5.out.2.2.2.1.1
    have hl1 := World.block_lt_of_cell? _ _ HN5.out.2.2.2.1.2.1
    have hl2 := World.block_lt_of_cell? _ _ HN5.out.2.2.2.1.2.2
    simp only at hl0 hl1 hl2
    exact All_stops 4 (by omega) b4 (b4 + 1) (b4 + 2) t (fun k => k = S1 ∨ Wa1.heap.size ≤ k) ⟨#[]⟩ ⟨#[]⟩ Pt rs Wa1 (hPt.below HS1.out).tab (fun k hk _ e => by have := hPt.lt k hk; rcases e with e | e <;> omega) (HC5.out _ _ _ HS1.out HN5.out.2.2.2.1.1) (HC5.out _ _ _ HS1.out HN5.out.2.2.2.1.2.1) (HC5.out _ _ _ HS1.out HN5.out.2.2.2.1.2.2) (by rintro (e | e) <;> omega) (by rintro (e | e) <;> omega) (by rintro (e | e) <;> omega) HR2.out.1
  case hS1 =>
    rintro ys rfl
    exact HBT.out
  case hbody1 =>
    intro l x W k ht hb hle
    have hcu := hb.cell
    have hfu := hb.frozen
    have hcn : W.cell? ⟨s2, 0, none⟩ = some (.int .i64 nn) := HC5.out _ _ _ (HS1.out.trans (ht.to_below HS1.out.size (fun k e => by have := HZ1.out; omega))) HN5.out.2.1
    have hwr : IntKind.i64.wrap ((k : Int) + 1) = (k : Int) + 1 := IntWalk.i64_in _ (by omega)
    unfold encs
    by_cases hkn : k = nn
    · subst hkn
      clear hb ht
      gi_wp2
    · have t1 : ((k : Int) == (nn : Int)) = false := by simp; omega
      clear hb ht
      gi_wp2
  rintro a' Wb1 ⟨D1, rfl, hD, hK, ht, hb⟩
  have H1 : Hid (Below w5.heap.size w5 Wb1 ∧ Wa1.heap.size ≤ D1 ∧ Wa1.heap.size ≤ Wb1.heap.size ∧ Boxed Wb1 (S1 + 1) 3 (.int .i64 0) ∧ Boxed Wb1 S1 3 (.int .i64 nn) ∧ Wb1.heap[D1]? = some (.deferred (some []))) := by
    have hz := HS1.out.size
    have hs5 := HZ1.out
    have ho := hA1.out.2.2.1
    exact ⟨HS1.out.trans (ht.to_below HS1.out.size (fun k e => by omega)), hD, ht.size, (ht.block _ ho.lt (fun e => by omega)).trans ho, hb, hK⟩
  clear hD hK ht hb
  have HS2 := Lib.hid H1.out.1
  have HM2 := Lib.hid H1.out.2.2.2.2.2
  gi_wp2_with fail
  refine wpIn_out (j := 4) (fun _ _ h => h) (count_loop (gf := 45) (lb := #[.pointer (some ⟨b5, 0, none⟩), .pointer (some ⟨b5 + 2, 0, none⟩), .pointer (some ⟨b5 + 1, 0, none⟩)]) (bu := (S1 + 1)) (nn := nn) (m := rs.length) (N := rs.length) (S := fun ys => ys = (flt ⟨#[]⟩ ⟨#[]⟩ rs).reverse) (Sp := fun pre => pre <+: (flt ⟨#[]⟩ ⟨#[]⟩ rs).reverse) ?hseq2 ?hS2 hnm rfl (enters_of Try.func45 (by kernel_rfl) rfl) (fun _ => rfl) H1.out.2.2.2.1 ?hbody2) ?_
  case hseq2 =>
    obtain ⟨Pt, hPt⟩ := HN5.out.2.2.1
    have hz := HS2.out.size
    have hs5 := HZ1.out
    have hl0 := World.block_lt_of_cell? _ _ HN5.out.2.2.2.2.1
    have hl1 := World.block_lt_of_cell? _ _ HN5.out.2.2.2.2.2.1
    have hl2 := World.block_lt_of_cell? _ _ HN5.out.2.2.2.2.2.2
    simp only at hl0 hl1 hl2
    exact Back_stops 4 (by omega) b5 (b5 + 1) (b5 + 2) t (fun k => k = (S1 + 1) ∨ Wb1.heap.size ≤ k) ⟨#[]⟩ ⟨#[]⟩ Pt rs Wb1 (hPt.below HS2.out).tab (fun k hk _ e => by have := hPt.lt k hk; rcases e with e | e <;> omega) (HC5.out _ _ _ HS2.out HN5.out.2.2.2.2.1) (HC5.out _ _ _ HS2.out HN5.out.2.2.2.2.2.1) (HC5.out _ _ _ HS2.out HN5.out.2.2.2.2.2.2) (by rintro (e | e) <;> omega) (by rintro (e | e) <;> omega) (by rintro (e | e) <;> omega) HR2.out.2.1
  case hS2 =>
    rintro ys rfl
    rw [List.length_reverse]; exact HRS.out
  case hbody2 =>
    intro l x W k ht hb hle
    have hcu := hb.cell
    have hfu := hb.frozen
    have hcn : W.cell? ⟨s2, 0, none⟩ = some (.int .i64 nn) := HC5.out _ _ _ (HS2.out.trans (ht.to_below HS2.out.size (fun k e => by have := HZ1.out; omega))) HN5.out.2.1
    have hwr : IntKind.i64.wrap ((k : Int) + 1) = (k : Int) + 1 := IntWalk.i64_in _ (by omega)
    unfold encs
    by_cases hkn : k = nn
    · subst hkn
      clear hb ht
      gi_wp2
    · have t1 : ((k : Int) == (nn : Int)) = false := by simp; omega
      clear hb ht
      gi_wp2
  rintro a' Wc1 ⟨D2, rfl, hD, hK, ht, hb⟩
  have H2 : Hid (Below w5.heap.size w5 Wc1 ∧ Wb1.heap.size ≤ D2 ∧ Wb1.heap.size ≤ Wc1.heap.size ∧ Boxed Wc1 S1 3 (.int .i64 nn) ∧ Boxed Wc1 (S1 + 1) 3 (.int .i64 nn) ∧ Wc1.heap[D1]? = some (.deferred (some [])) ∧ Wc1.heap[D2]? = some (.deferred (some []))) := by
    have hz := HS2.out.size
    have hs5 := HZ1.out
    have ho := H1.out.2.2.2.2.1
    have mD1 := HM2.out
    exact ⟨HS2.out.trans (ht.to_below HS2.out.size (fun k e => by omega)), hD, ht.size, (ht.block _ ho.lt (fun e => by omega)).trans ho, hb, (ht.block _ (Array.getElem?_eq_some_iff.1 mD1).1 (fun e => by rw [e] at mD1; rw [show Wb1.heap[(S1 + 1)]? = _ from H1.out.2.2.2.1] at mD1; cases mD1)).trans mD1, hK⟩
  clear hD hK ht hb
  have cu : Wc1.cell? ⟨S1, 0, none⟩ = some (.int .i64 nn) := H2.out.2.2.2.1.cell
  have cd : Wc1.cell? ⟨S1 + 1, 0, none⟩ = some (.int .i64 nn) := H2.out.2.2.2.2.1.cell
  have cn : Wc1.cell? ⟨s2, 0, none⟩ = some (.int .i64 nn) := HC5.out _ _ _ H2.out.1 HN5.out.2.1
  gi_wp2_with fail
  clear cu cd cn
  rw [roundsIn_succ]
  gi_wp2_with fail
  obtain ⟨Wa2, hWa2⟩ : ∃ Wa, (Wc1.alloc (.cells #[.int .i64 0] 3)).alloc (.cells #[.int .i64 0] 3) = Wa := ⟨_, rfl⟩
  rw [hWa2]
  obtain ⟨S2, hSr⟩ : ∃ S, S = Wc1.heap.size := ⟨_, rfl⟩
  rw [← hSr]
  have hA2 : Hid (Below Wc1.heap.size Wc1 Wa2 ∧ Boxed Wa2 S2 3 (.int .i64 0) ∧ Boxed Wa2 (S2 + 1) 3 (.int .i64 0) ∧ Wa2.heap.size = S2 + 2) := by
    rw [← hWa2, hSr]
    refine ⟨((Below.refl _ Wc1).alloc (Nat.le_refl _) _).alloc (by simp) _, (Boxed.new Wc1 _ _).alloc _, ?_, by simp⟩
    have := Boxed.new (Wc1.alloc (.cells #[.int .i64 0] 3)) 3 (.int .i64 0)
    simpa using this
  have HZ2 := Lib.hid (show w5.heap.size ≤ S2 by have := H2.out.1.size; omega)
  have HS3 := Lib.hid (H2.out.1.trans (hA2.out.1.mono H2.out.1.size))
  have HM3 : Hid (Wa2.heap[D1]? = some (.deferred (some [])) ∧ Wa2.heap[D2]? = some (.deferred (some []))) := by
    have m1 := H2.out.2.2.2.2.2.1
    have m2 := H2.out.2.2.2.2.2.2
    exact ⟨(hA2.out.1.block _ (Array.getElem?_eq_some_iff.1 m1).1).trans m1, (hA2.out.1.block _ (Array.getElem?_eq_some_iff.1 m2).1).trans m2⟩
  clear hWa2 hSr
  refine wpIn_out (j := 2) (fun _ _ h => h) (count_loop (gf := 43) (lb := #[.pointer (some ⟨b4, 0, none⟩), .pointer (some ⟨b4 + 1, 0, none⟩), .pointer (some ⟨b4 + 2, 0, none⟩)]) (bu := S2) (nn := nn) (m := rs.length) (N := rs.length) (S := fun ys => ys = btw ⟨#[]⟩ ⟨#[]⟩ rs) (Sp := fun pre => pre <+: btw ⟨#[]⟩ ⟨#[]⟩ rs) ?hseq3 ?hS3 hnm rfl (enters_of Try.func43 (by kernel_rfl) rfl) (fun _ => rfl) hA2.out.2.1 ?hbody3) ?_
  case hseq3 =>
    obtain ⟨Pt, hPt⟩ := HN5.out.2.2.1
    have hz := HS3.out.size
    have hs5 := HZ2.out
    have hl0 := World.block_lt_of_cell? _ _ HN5.out.2.2.2.1.1
    have hl1 := World.block_lt_of_cell? _ _ HN5.out.2.2.2.1.2.1
    have hl2 := World.block_lt_of_cell? _ _ HN5.out.2.2.2.1.2.2
    simp only at hl0 hl1 hl2
    exact All_stops 4 (by omega) b4 (b4 + 1) (b4 + 2) t (fun k => k = S2 ∨ Wa2.heap.size ≤ k) ⟨#[]⟩ ⟨#[]⟩ Pt rs Wa2 (hPt.below HS3.out).tab (fun k hk _ e => by have := hPt.lt k hk; rcases e with e | e <;> omega) (HC5.out _ _ _ HS3.out HN5.out.2.2.2.1.1) (HC5.out _ _ _ HS3.out HN5.out.2.2.2.1.2.1) (HC5.out _ _ _ HS3.out HN5.out.2.2.2.1.2.2) (by rintro (e | e) <;> omega) (by rintro (e | e) <;> omega) (by rintro (e | e) <;> omega) HR2.out.1
  case hS3 =>
    rintro ys rfl
    exact HBT.out
  case hbody3 =>
    intro l x W k ht hb hle
    have hcu := hb.cell
    have hfu := hb.frozen
    have hcn : W.cell? ⟨s2, 0, none⟩ = some (.int .i64 nn) := HC5.out _ _ _ (HS3.out.trans (ht.to_below HS3.out.size (fun k e => by have := HZ2.out; omega))) HN5.out.2.1
    have hwr : IntKind.i64.wrap ((k : Int) + 1) = (k : Int) + 1 := IntWalk.i64_in _ (by omega)
    unfold encs
    by_cases hkn : k = nn
    · subst hkn
      clear hb ht
      gi_wp2
    · have t1 : ((k : Int) == (nn : Int)) = false := by simp; omega
      clear hb ht
      gi_wp2
  rintro a' Wb2 ⟨D3, rfl, hD, hK, ht, hb⟩
  have H3 : Hid (Below w5.heap.size w5 Wb2 ∧ Wa2.heap.size ≤ D3 ∧ Wa2.heap.size ≤ Wb2.heap.size ∧ Boxed Wb2 (S2 + 1) 3 (.int .i64 0) ∧ Boxed Wb2 S2 3 (.int .i64 nn) ∧ Wb2.heap[D1]? = some (.deferred (some [])) ∧ Wb2.heap[D2]? = some (.deferred (some [])) ∧ Wb2.heap[D3]? = some (.deferred (some []))) := by
    have hz := HS3.out.size
    have hs5 := HZ2.out
    have ho := hA2.out.2.2.1
    have mD1 := HM3.out.1
    have mD2 := HM3.out.2
    exact ⟨HS3.out.trans (ht.to_below HS3.out.size (fun k e => by omega)), hD, ht.size, (ht.block _ ho.lt (fun e => by omega)).trans ho, hb, (ht.block _ (Array.getElem?_eq_some_iff.1 mD1).1 (fun e => by rw [e] at mD1; rw [show Wa2.heap[S2]? = _ from hA2.out.2.1] at mD1; cases mD1)).trans mD1, (ht.block _ (Array.getElem?_eq_some_iff.1 mD2).1 (fun e => by rw [e] at mD2; rw [show Wa2.heap[S2]? = _ from hA2.out.2.1] at mD2; cases mD2)).trans mD2, hK⟩
  clear hD hK ht hb
  have HS4 := Lib.hid H3.out.1
  have HM4 := Lib.hid H3.out.2.2.2.2.2
  gi_wp2_with fail
  refine wpIn_out (j := 4) (fun _ _ h => h) (count_loop (gf := 45) (lb := #[.pointer (some ⟨b5, 0, none⟩), .pointer (some ⟨b5 + 2, 0, none⟩), .pointer (some ⟨b5 + 1, 0, none⟩)]) (bu := (S2 + 1)) (nn := nn) (m := rs.length) (N := rs.length) (S := fun ys => ys = (flt ⟨#[]⟩ ⟨#[]⟩ rs).reverse) (Sp := fun pre => pre <+: (flt ⟨#[]⟩ ⟨#[]⟩ rs).reverse) ?hseq4 ?hS4 hnm rfl (enters_of Try.func45 (by kernel_rfl) rfl) (fun _ => rfl) H3.out.2.2.2.1 ?hbody4) ?_
  case hseq4 =>
    obtain ⟨Pt, hPt⟩ := HN5.out.2.2.1
    have hz := HS4.out.size
    have hs5 := HZ2.out
    have hl0 := World.block_lt_of_cell? _ _ HN5.out.2.2.2.2.1
    have hl1 := World.block_lt_of_cell? _ _ HN5.out.2.2.2.2.2.1
    have hl2 := World.block_lt_of_cell? _ _ HN5.out.2.2.2.2.2.2
    simp only at hl0 hl1 hl2
    exact Back_stops 4 (by omega) b5 (b5 + 1) (b5 + 2) t (fun k => k = (S2 + 1) ∨ Wb2.heap.size ≤ k) ⟨#[]⟩ ⟨#[]⟩ Pt rs Wb2 (hPt.below HS4.out).tab (fun k hk _ e => by have := hPt.lt k hk; rcases e with e | e <;> omega) (HC5.out _ _ _ HS4.out HN5.out.2.2.2.2.1) (HC5.out _ _ _ HS4.out HN5.out.2.2.2.2.2.1) (HC5.out _ _ _ HS4.out HN5.out.2.2.2.2.2.2) (by rintro (e | e) <;> omega) (by rintro (e | e) <;> omega) (by rintro (e | e) <;> omega) HR2.out.2.1
  case hS4 =>
    rintro ys rfl
    rw [List.length_reverse]; exact HRS.out
  case hbody4 =>
    intro l x W k ht hb hle
    have hcu := hb.cell
    have hfu := hb.frozen
    have hcn : W.cell? ⟨s2, 0, none⟩ = some (.int .i64 nn) := HC5.out _ _ _ (HS4.out.trans (ht.to_below HS4.out.size (fun k e => by have := HZ2.out; omega))) HN5.out.2.1
    have hwr : IntKind.i64.wrap ((k : Int) + 1) = (k : Int) + 1 := IntWalk.i64_in _ (by omega)
    unfold encs
    by_cases hkn : k = nn
    · subst hkn
      clear hb ht
      gi_wp2
    · have t1 : ((k : Int) == (nn : Int)) = false := by simp; omega
      clear hb ht
      gi_wp2
  rintro a' Wc2 ⟨D4, rfl, hD, hK, ht, hb⟩
  have H4 : Hid (Below w5.heap.size w5 Wc2 ∧ Wb2.heap.size ≤ D4 ∧ Wb2.heap.size ≤ Wc2.heap.size ∧ Boxed Wc2 S2 3 (.int .i64 nn) ∧ Boxed Wc2 (S2 + 1) 3 (.int .i64 nn) ∧ Wc2.heap[D1]? = some (.deferred (some [])) ∧ Wc2.heap[D2]? = some (.deferred (some [])) ∧ Wc2.heap[D3]? = some (.deferred (some [])) ∧ Wc2.heap[D4]? = some (.deferred (some []))) := by
    have hz := HS4.out.size
    have hs5 := HZ2.out
    have ho := H3.out.2.2.2.2.1
    have mD1 := HM4.out.1
    have mD2 := HM4.out.2.1
    have mD3 := HM4.out.2.2
    exact ⟨HS4.out.trans (ht.to_below HS4.out.size (fun k e => by omega)), hD, ht.size, (ht.block _ ho.lt (fun e => by omega)).trans ho, hb, (ht.block _ (Array.getElem?_eq_some_iff.1 mD1).1 (fun e => by rw [e] at mD1; rw [show Wb2.heap[(S2 + 1)]? = _ from H3.out.2.2.2.1] at mD1; cases mD1)).trans mD1, (ht.block _ (Array.getElem?_eq_some_iff.1 mD2).1 (fun e => by rw [e] at mD2; rw [show Wb2.heap[(S2 + 1)]? = _ from H3.out.2.2.2.1] at mD2; cases mD2)).trans mD2, (ht.block _ (Array.getElem?_eq_some_iff.1 mD3).1 (fun e => by rw [e] at mD3; rw [show Wb2.heap[(S2 + 1)]? = _ from H3.out.2.2.2.1] at mD3; cases mD3)).trans mD3, hK⟩
  clear hD hK ht hb
  have cu : Wc2.cell? ⟨S2, 0, none⟩ = some (.int .i64 nn) := H4.out.2.2.2.1.cell
  have cd : Wc2.cell? ⟨S2 + 1, 0, none⟩ = some (.int .i64 nn) := H4.out.2.2.2.2.1.cell
  have cn : Wc2.cell? ⟨s2, 0, none⟩ = some (.int .i64 nn) := HC5.out _ _ _ H4.out.1 HN5.out.2.1
  gi_wp2_with fail
  clear cu cd cn
  rw [roundsIn_succ]
  gi_wp2_with fail
  have q1 := H1.out.2.1
  have q2 := H2.out.2.1
  have q3 := H3.out.2.1
  have q4 := H4.out.2.1
  have m1 := H4.out.2.2.2.2.2.1
  have m2 := H4.out.2.2.2.2.2.2.1
  have m3 := H4.out.2.2.2.2.2.2.2.1
  have m4 := H4.out.2.2.2.2.2.2.2.2
  have l1 := (Array.getElem?_eq_some_iff.1 H1.out.2.2.2.2.2).1
  have l2 := (Array.getElem?_eq_some_iff.1 H2.out.2.2.2.2.2.2).1
  have l3 := (Array.getElem?_eq_some_iff.1 H3.out.2.2.2.2.2.2.2).1
  have z2 := hA2.out.2.2.2
  have z1 := hA1.out.1.size
  have z3 := hA2.out.1.size
  have n43 : D3 ≠ D4 := by omega
  have n42 : D2 ≠ D4 := by omega
  have n41 : D1 ≠ D4 := by omega
  have n32 : D2 ≠ D3 := by omega
  have n31 : D1 ≠ D3 := by omega
  have n21 : D1 ≠ D2 := by omega
  have hB := HN5.out.1.trans (H4.out.1.mono HN5.out.1.size)
  have hw5 := HN5.out.1.size
  have k3 := (World.putObj_heap_other (o := .deferred none) n43).trans m3
  have k2 := (World.putObj_heap_other (o := .deferred none) n32).trans ((World.putObj_heap_other (o := .deferred none) n42).trans m2)
  have k1 := (World.putObj_heap_other (o := .deferred none) n21).trans ((World.putObj_heap_other (o := .deferred none) n31).trans ((World.putObj_heap_other (o := .deferred none) n41).trans m1))
  refine ⟨by simp, .inl ⟨_, _, rfl, run_takeDeferred m4, ?_⟩⟩
  refine ⟨by simp, .inl ⟨_, _, rfl, run_takeDeferred k3, ?_⟩⟩
  refine ⟨by simp, .inl ⟨_, _, rfl, run_takeDeferred k2, ?_⟩⟩
  refine ⟨by simp, .inl ⟨_, _, rfl, run_takeDeferred k1, ?_⟩⟩
  exact ⟨_, results_tmp rfl _ _ _, rfl, (((hB.trans (belowK_b (w := w) (Nat.le_refl _) _ D4 _ _ (by omega) m4 rfl rfl)).trans (belowK_b (w := w) (Nat.le_refl _) _ D3 _ _ (by omega) k3 rfl rfl)).trans (belowK_b (w := w) (Nat.le_refl _) _ D2 _ _ (by omega) k2 rfl rfl)).trans (belowK_b (w := w) (Nat.le_refl _) _ D1 _ _ (by omega) k1 rfl rfl)⟩


end Tb
end Go.Proofs.Ytoglklldclgcbaa
