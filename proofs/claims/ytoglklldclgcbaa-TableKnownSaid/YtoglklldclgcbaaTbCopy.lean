/-
  Walk: a table's Copy.
-/
import Derived.Test.YtoglklldclgcbaaTbRound
import Derived.Test.YtoglklldclgcbaaTbRanged
namespace Go.Proofs.Ytoglklldclgcbaa
open Go.RowKit Go.Shelf Sk
namespace Tb
attribute [local go_sem] Oper.semAt_some

/-- what All has told so far, of rows that stay -/
def Told (frm tt : ByteArray) (rows pre : List Row) : Prop := btw frm tt rows = pre ++ (hi Row.k (atA frm pre) rows).takeWhile (belowT tt)
theorem Told.start (frm tt : ByteArray) (rows : List Row) : Told frm tt rows [] := rfl
theorem Told.next {frm tt : ByteArray} {rows pre : List Row} (hs : Srt Row.k rows) {x : Row} (h : Told frm tt rows pre) (hx : nextA frm tt rows pre = some x) : Told frm tt rows (pre ++ [x]) := by
  obtain ⟨r, hr, hbx⟩ := nextA_some hx
  unfold Told at *
  rw [atA_snoc, hi_next hs hr, h, hr, List.takeWhile_cons, if_pos hbx]
  simp
theorem Told.ends {frm tt : ByteArray} {rows pre : List Row} (h : Told frm tt rows pre) (hx : nextA frm tt rows pre = none) : btw frm tt rows = pre := by
  unfold Told at h
  rw [nextA_none hx, List.append_nil] at h
  exact h
theorem Told.lt {frm tt : ByteArray} {rows pre : List Row} (hs : Srt Row.k rows) {x : Row} (h : Told frm tt rows pre) (hx : nextA frm tt rows pre = some x) : pre.length < rows.length := by
  have h1 := congrArg List.length (h.next hs hx)
  have h2 : (btw frm tt rows).length ≤ rows.length := by
    unfold btw
    exact Nat.le_trans (List.takeWhile_sublist _).length_le (List.dropWhile_sublist _).length_le
  simp at h1
  omega
theorem btw_all {rows : List Row} (hs : Srt Row.k rows) : btw ⟨#[]⟩ ⟨#[]⟩ rows = rows := by
  rw [btw_flt hs]
  unfold flt
  rw [List.filter_eq_self]
  intro x _
  have : belowT ⟨#[]⟩ x = true := by unfold belowT; rw [nil_list]; rfl
  rw [kl_nil, this]
  rfl
theorem putT_snoc {pre : List Row} {x : Row} (h : ∀ y ∈ pre, kl y.k x.k = true) : putT x.k x.v pre = pre ++ [x] := by
  obtain ⟨h1, h2⟩ := lo_all Row.k h
  unfold putT restT
  rw [h1, h2]
theorem Told.put {rows pre : List Row} (hs : Srt Row.k rows) {x : Row} (h : Told ⟨#[]⟩ ⟨#[]⟩ rows pre) (hx : nextA ⟨#[]⟩ ⟨#[]⟩ rows pre = some x) : putT x.k x.v pre = pre ++ [x] := by
  have h1 := h.next hs hx
  unfold Told at h1
  rw [btw_all hs] at h1
  have h2 := hs
  unfold Srt at h2
  rw [h1] at h2
  have h3 := (List.pairwise_append.1 (List.pairwise_append.1 h2).1).2.2
  exact putT_snoc fun y hy => h3 y hy x (List.mem_singleton.2 rfl)
theorem nextA_mem {frm tt : ByteArray} {rows pre : List Row} {x : Row} (h : nextA frm tt rows pre = some x) : x ∈ rows := by
  obtain ⟨r, hr, _⟩ := nextA_some h
  rw [← lo_hi Row.k (atA frm pre) rows, hr]
  simp

/-- a table's own blocks, and no others: each is of cells -/
theorem At.exact {P : Nat → Prop} {w : World} {t : Nat} {rows : List Row} (h : At P w t rows) : ∃ P0, At P0 w t rows ∧ (∀ k, P0 k → P k) ∧ (∀ k, P0 k → ∃ T, kindOf w k = some T) := by
  obtain ⟨L, x, sd, hh⟩ := h.tab
  obtain ⟨a, hv⟩ := hh.var
  obtain ⟨H, l, hl⟩ := hh.li
  refine ⟨fun k => k = t ∨ k = x ∨ k ∈ own L H l, ⟨⟨L, x, sd, hh.hdr, ⟨a, hv⟩, ⟨H, l, hl.is, hl.rows, fun k hk => .inr (.inr hk)⟩, .inl rfl, .inr (.inl rfl)⟩, fun k hk => ?_⟩, fun k hk => ?_, fun k hk => ?_⟩
  · rcases hk with rfl | rfl | hk
    · exact hh.hdr.lt
    · exact hv.lt
    · exact hl.is.own_lt hk
  · rcases hk with rfl | rfl | hk
    · exact hh.pt
    · exact hh.px
    · exact hl.base k hk
  · rcases hk with rfl | rfl | hk
    · exact ⟨_, kind_blk hh.hdr⟩
    · exact ⟨_, kind_blk hv⟩
    · obtain ⟨_, T, _, hT⟩ := own_kind hl hk
      exact ⟨T, hT⟩
theorem kind_cells {w : World} {k : Nat} {o : Obj} (hk : w.heap[k]? = some o) (ho : o.isCells = false) : kindOf w k = none := by
  unfold kindOf
  rw [hk]
  cases o <;> first | rfl | (simp [Obj.isCells] at ho)
theorem keeps_turns {B : Nat} {S : Nat → Prop} {W W' : World} (ht : Turns S W W') (hS : ∀ k, S k → ∃ T, kindOf W k = some T) : KeepsFrom B W W' :=
  ⟨ht.size, fun k o _ hk ho => (ht.block k (Array.getElem?_eq_some_iff.1 hk).1 (fun hs => by obtain ⟨T, hT⟩ := hS k hs; rw [kind_cells hk ho] at hT; cases hT)).trans hk⟩

theorem TabIs.wide {P Q : Nat → Prop} {w : World} {t L x : Nat} {sd : Int} {rows : List Row} (h : TabIs P w t L x sd rows) (hq : ∀ k, P k → Q k) : TabIs Q w t L x sd rows :=
  ⟨h.hdr, h.var, h.li.widen (fun k hk _ => hq k hk), hq _ h.pt, hq _ h.px⟩
/-- the copy so far -/
structure CopyI (F : Nat → Prop) (wL : World) (c : Nat) (rows pre : List Row) (W : World) : Prop where
  fr : Turns (fun k => ¬ F k) wL W
  ex : ∃ P, At P W c pre ∧ (∀ k, P k → ¬ F k) ∧ (∀ k, P k → ∃ T, kindOf W k = some T)
  told : Told ⟨#[]⟩ ⟨#[]⟩ rows pre
theorem copy_own {F : Nat → Prop} {wL : World} {c : Nat} {rows : List Row} (hF : ∀ k, F k → k < wL.heap.size) : OwnFrom wL.heap.size (CopyI F wL c rows) := by
  rintro pre W W' row ⟨hfr, ⟨P, h1, h2, h3⟩, ht⟩ hg hr
  have hgt := Turns.of_grown hg
  refine ⟨hfr.trans hgt (fun k _ e hF' => ?_), ⟨P, h1.keep hgt (fun k hk e => ?_), h2, fun k hk => ?_⟩, ht⟩
  · have := (hr k e).1
    have := hF k hF'
    omega
  · obtain ⟨_, o, ho, hc⟩ := hr k e
    obtain ⟨T, hT⟩ := h3 k hk
    rw [kind_cells ho hc] at hT
    cases hT
  · obtain ⟨T, hT⟩ := h3 k hk
    refine ⟨T, ?_⟩
    have hne : row ≠ some k := fun e => by
      obtain ⟨_, o, ho, hc⟩ := hr k e
      rw [kind_cells ho hc] at hT
      cases hT
    unfold kindOf
    rw [hg.block k (h1.lt k hk) (fun e => hne e.symm)]
    exact hT

set_option maxRecDepth 100000 in
set_option maxHeartbeats 4000000 in
theorem Copy_at {P : Nat → Prop} {t : Nat} {rows : List Row} {w : World} (h : At P w t rows) (hk : ∀ x ∈ rows, x.k.size ≤ reachBytes) (hr : rows.length ≤ 900000) :
    Calls Try.prog 30 #[TP t] w fun e w' => ∃ c P', e = .returned (TP c) ∧ At P' w' c rows ∧ (∀ k, P' k → w.heap.size ≤ k) ∧ Below w.heap.size w w' := by
  refine (callsIn_wide (n := 5)).1 ?_
  refine callsIn_of_wp_marks Try.func30 rfl trivial ?_ rfl
  simp only [Try.ntmps30, List.size_toArray, List.length_cons, List.length_nil, Nat.reduceAdd, Nat.reduceSub, Array.replicate_succ, Array.replicate_zero, List.push_toArray, List.append_toArray, List.nil_append, List.cons_append]
  have HT := Lib.hid h
  have hb0 : Below w.heap.size w (w.alloc (.cells #[TP t] 23)) := (Below.refl _ w).alloc (Nat.le_refl _) _
  have hx0 : Boxed (w.alloc (.cells #[TP t] 23)) w.heap.size 23 (TP t) := Boxed.new _ _ _
  obtain ⟨L, x, sd, hti⟩ := (h.below hb0).tab
  have cs : (w.alloc (.cells #[TP t] 23)).cell? ⟨t, 2, none⟩ = some (.int .i64 sd) := hti.hdr.cell 2
  have HN := Lib.hid (none_tb (h.below hb0).tab)
  have HW := Lib.hid (fun W1 => callsIn_wide (n := 4).2 (New_at sd W1))
  have H0 := Lib.hid (And.intro hb0 hx0)
  clear h hti hb0 hx0
  gi_wp2_with (first
    | (refine ⟨trivial, ?_⟩; gi_at_call 35; refine (callsIn_wide.2 HN.out).mono ?_; rintro e w' ⟨rfl, rfl⟩)
    | (refine ⟨trivial, ?_⟩; gi_at_call 12; refine (HW.out _).mono ?_; rintro e W1 ⟨c, rfl, h1, hb1⟩
       have hx1 : W1.cell? ⟨w.heap.size, 0, none⟩ = some (TP t) := (hb1.cell (p := ⟨w.heap.size, 0, none⟩) H0.out.2.lt).trans H0.out.2.cell
       have hl1 : w.heap.size < W1.heap.size := Nat.lt_of_lt_of_le H0.out.2.lt hb1.size
       have H1 := Lib.hid (And.intro h1 hb1)
       clear h1 hb1)
    | (refine ⟨trivial, ?_⟩; gi_at_call 26; refine (callsIn_wide.2 (All_tbx t ⟨#[]⟩ ⟨#[]⟩ _)).mono ?_; rintro e W2 ⟨b2, rfl, h2⟩; have H2 := Lib.hid h2; clear h2))
  obtain ⟨s3, hs3⟩ : ∃ s3, W1.heap.size = s3 := ⟨_, rfl⟩
  have hb2 : b2 = s3 + 1 := by rw [H2.out.at0, ← hs3]; simp
  have hz2 : W2.heap.size = s3 + 4 := by rw [H2.out.size, hb2]
  subst hb2
  have hbW1 : Below w.heap.size w W1 := H0.out.1.trans (H1.out.2.mono H0.out.1.size)
  have hb3 : Below W1.heap.size W1 W2 := ((Below.refl _ W1).alloc (Nat.le_refl _) _).trans (H2.out.bel.mono (by simp))
  have hbW2 : Below w.heap.size w W2 := hbW1.trans (hb3.mono hbW1.size)
  have hk1 : W2.cell? ⟨w.heap.size, 0, none⟩ = some (TP t) := (hb3.cell (p := ⟨w.heap.size, 0, none⟩) hl1).trans hx1
  have hk3 : W2.cell? ⟨s3, 0, none⟩ = some (TP c) := by
    have h1 : (W1.alloc (.cells #[TP c] 23)).cell? ⟨s3, 0, none⟩ = some (TP c) := by rw [← hs3]; exact (Boxed.new W1 _ _).cell
    exact (H2.out.bel.cell (p := ⟨s3, 0, none⟩) (World.block_lt_of_cell? _ _ h1)).trans h1
  rw [hs3] at hl1
  rw [hs3]
  obtain ⟨F, hF⟩ : ∃ F : Nat → Prop, F = fun k => k < w.heap.size ∨ k = w.heap.size ∨ (s3 ≤ k ∧ k < s3 + 4) := ⟨_, rfl⟩
  have hFl : ∀ k, F k → k < W2.heap.size := fun k hk => by rw [hF] at hk; rw [hz2]; omega
  have hAt := HT.out.below hbW2
  have hPF : ∀ k, P k → F k := fun k hk => by rw [hF]; exact .inl (HT.out.lt k hk)
  have hcF : ∀ W, Turns (fun k => ¬ F k) W2 W → ∀ b j v, F b → W2.cell? ⟨b, j, none⟩ = some v → W.cell? ⟨b, j, none⟩ = some v := fun W ht b j v hb hc =>
    (World.cell?_of_block (w := W2) (a := ⟨b, j, none⟩) (ht.block b (World.block_lt_of_cell? W2 _ hc) (fun h => h hb))).trans hc
  have h0I : CopyI F W2 c rows [] W2 := by
    refine ⟨Turns.refl _ _, ?_, Told.start _ _ _⟩
    obtain ⟨P0, p1, p2, p3⟩ := (H1.out.1.below hb3).exact
    refine ⟨P0, p1, fun k hk hF' => ?_, p3⟩
    have h1 := p2 k hk
    have h2 := h1.1
    have h3 := h1.2
    rw [hF] at hF'
    simp at h2
    rw [hs3] at h3
    omega
  have HS := Lib.hid HT.out.tab.srt
  have HX := Lib.hid (And.intro hF (And.intro hFl (And.intro hAt (And.intro hPF (And.intro hcF (And.intro hk1 (And.intro hk3 (And.intro H2.out.c0 (And.intro H2.out.c1 (And.intro H2.out.c2 (And.intro hk (And.intro hbW2 hl1))))))))))))
  have hTT : ∀ pre W, CopyI F W2 c rows pre W → TabT (s3 + 1) (s3 + 1 + 1) (s3 + 1 + 2) t ⟨#[]⟩ ⟨#[]⟩ (fun _ => rows) (fun pre => nextA ⟨#[]⟩ ⟨#[]⟩ rows pre) rows.length pre W := fun pre W hi =>
    ⟨⟨P, (hAt.keep hi.fr (fun k hk h => h (hPF k hk))).tab⟩, hcF W hi.fr _ _ _ (by rw [hF]; omega) H2.out.c0, hcF W hi.fr _ _ _ (by rw [hF]; omega) H2.out.c1, hcF W hi.fr _ _ _ (by rw [hF]; omega) H2.out.c2, hk, fun x hx => hi.told.lt HS.out hx⟩
  refine range_next (by omega) (gf := 43) (lb := #[.pointer (some ⟨s3 + 1, 0, none⟩), .pointer (some ⟨s3 + 1 + 1, 0, none⟩), .pointer (some ⟨s3 + 1 + 2, 0, none⟩)]) (All_next 4 (by omega) (s3 + 1) (s3 + 1 + 1) (s3 + 1 + 2) t ⟨#[]⟩ ⟨#[]⟩ rows.length (fun _ => rows)) rfl (enters_of Try.func43 (by kernel_rfl) rfl) rfl
    (CopyI F W2 c rows) (fun _ _ _ => False) (copy_own hFl) (fun _ _ _ _ _ hs _ _ => hs) hTT h0I
    (fun x => { tmps := #[TP t, .pointer (some ⟨w.heap.size, 0, none⟩), .pointer none, .pointer (some ⟨s3, 0, none⟩), .string x.k, .string x.v, TP t, .bool false, TP t, .pointer (some ⟨t, 0, none⟩), .pointer (some ⟨t, 2, none⟩), .int .i64 sd, TP c, TP t, .func (.func 43) #[] #[.pointer (some ⟨s3 + 1, 0, none⟩), .pointer (some ⟨s3 + 1 + 1, 0, none⟩), .pointer (some ⟨s3 + 1 + 2, 0, none⟩)], .string x.k, .string x.v, undef, undef, undef, undef, undef, undef, undef, undef, undef, undef, undef, undef, undef, undef], defers := [] }) ?assign ?body ?done ?stop
  case assign =>
    intro l x W K hK
    unfold encs
    gi_wp2
    exact hK
  case body =>
    rintro l pre x W ⟨hfr, ⟨Po, hpo, hpF, hpK⟩, htold⟩ hx
    clear hF hFl hAt hPF hcF hk1 hk3 hTT h0I hk hbW1 hb3 hbW2 hl1
    obtain ⟨hF, hFl, hAt, hPF, hcF, hk1, hk3, hc0, hc1, hc2, hsm, hbW2, hl1⟩ := HX.out
    have hxr := nextA_mem hx
    have hsk := seek_of_mem HS.out hxr
    have hput := htold.put HS.out hx
    have hnx := htold.next HS.out hx
    have hlt := htold.lt HS.out hx
    have c1 : W.cell? ⟨w.heap.size, 0, none⟩ = some (TP t) := hcF W hfr _ _ _ (by rw [hF]; omega) hk1
    have c3 : W.cell? ⟨s3, 0, none⟩ = some (TP c) := hcF W hfr _ _ _ (by rw [hF]; omega) hk3
    have htW := hAt.keep hfr (fun k hk h => h (hPF k hk))
    obtain ⟨L, xd, sdt, hti⟩ := htW.tab
    obtain ⟨Lo, xo, sdo, hto⟩ := hpo.tab
    have ct : W.cell? ⟨t, 0, none⟩ = some (.pointer (some ⟨L, 0, none⟩)) := hti.hdr.cell 0
    have co : W.cell? ⟨c, 0, none⟩ = some (.pointer (some ⟨Lo, 0, none⟩)) := hto.hdr.cell 0
    clear hF hFl hAt hPF hcF hk1 hk3 hc0 hc1 hc2 hsm hbW2
    gi_wp2_with fail
    refine region_round (fun w' => w'.cell? ⟨w.heap.size, 0, none⟩ = some (TP t) ∧ w'.cell? ⟨s3, 0, none⟩ = some (TP c) ∧ w'.cell? ⟨t, 0, none⟩ = some (.pointer (some ⟨L, 0, none⟩)) ∧ w'.cell? ⟨c, 0, none⟩ = some (.pointer (some ⟨Lo, 0, none⟩))) (by kernel_rfl) (fun ⟨_, _, h⟩ => h) (by kernel_rfl) ⟨c1, c3, ct, co⟩ (fun hHeld => ?_)
    refine wpAnyH_take (i := 0) (v := TP c) rfl (by kernel_rfl) (by kernel_rfl) (by kernel_rfl) (fun _ _ _ h => h) (Or.inl ⟨by rfl, fun wS hSw => by (try dsimp only at hSw); go_simp⟩) (by assumption) ?_
    refine wpAnyH_take (i := 1) (v := TP c) rfl (by kernel_rfl) (by kernel_rfl) (by kernel_rfl) (fun _ _ _ h => h) (Or.inl ⟨by rfl, fun wS hSw => by (try dsimp only at hSw); go_simp⟩) (by assumption) ?_
    refine wpAnyH_take (i := 2) (v := .pointer (some ⟨c, 0, none⟩)) rfl (by kernel_rfl) (by kernel_rfl) (by kernel_rfl) (fun _ _ _ h => h) (Or.inl ⟨by rfl, fun wS hSw => by (try dsimp only at hSw); go_simp⟩) (by assumption) ?_
    refine wpAnyH_take (i := 3) (v := .pointer (some ⟨Lo, 0, none⟩)) rfl (by kernel_rfl) (by kernel_rfl) (by kernel_rfl) (fun _ _ _ h => h) (Or.inl ⟨by rfl, fun wS hSw => by (try dsimp only at hSw); go_simp⟩) (by assumption) ?_
    refine wpAnyH_take (i := 4) (v := .string x.k) rfl (by kernel_rfl) (by kernel_rfl) (by kernel_rfl) (fun _ _ _ h => h) (Or.inl ⟨by rfl, fun wS hSw => by (try dsimp only at hSw); go_simp⟩) (by assumption) ?_
    refine wpAnyH_take (i := 5) (v := .string x.v) rfl (by kernel_rfl) (by kernel_rfl) (by kernel_rfl) (fun _ _ _ h => h) (Or.inl ⟨by rfl, fun wS hSw => by (try dsimp only at hSw); go_simp⟩) (by assumption) ?_
    refine wpAnyH_take (i := 6) (v := TP t) rfl (by kernel_rfl) (by kernel_rfl) (by kernel_rfl) (fun _ _ _ h => h) (Or.inl ⟨by rfl, fun wS hSw => by (try dsimp only at hSw); go_simp⟩) (by assumption) ?_
    refine wpAnyH_take (i := 7) (v := TP t) rfl (by kernel_rfl) (by kernel_rfl) (by kernel_rfl) (fun _ _ _ h => h) (Or.inl ⟨by rfl, fun wS hSw => by (try dsimp only at hSw); go_simp⟩) (by assumption) ?_
    refine wpAnyH_take (i := 8) (v := .pointer (some ⟨t, 0, none⟩)) rfl (by kernel_rfl) (by kernel_rfl) (by kernel_rfl) (fun _ _ _ h => h) (Or.inl ⟨by rfl, fun wS hSw => by (try dsimp only at hSw); go_simp⟩) (by assumption) ?_
    refine wpAnyH_take (i := 9) (v := .pointer (some ⟨L, 0, none⟩)) rfl (by kernel_rfl) (by kernel_rfl) (by kernel_rfl) (fun _ _ _ h => h) (Or.inl ⟨by rfl, fun wS hSw => by (try dsimp only at hSw); go_simp⟩) (by assumption) ?_
    refine wpAnyH_take (i := 10) (v := .string x.k) rfl (by kernel_rfl) (by kernel_rfl) (by kernel_rfl) (fun _ _ _ h => h) (Or.inl ⟨by rfl, fun wS hSw => by (try dsimp only at hSw); go_simp⟩) (by assumption) ?_
    refine wpAnyH_ready (rs := [11]) (by kernel_rfl) (by simp) ?_
    refine AllReadyH.cons rfl (fun K hK => ?_) ?_
    rotate_left
    · exact AllReadyH.nil
    go_simp
    refine (Steps_li P L rows _ x.k x (hti.li.below ((Below.refl _ _).drew)) hsk).mono ?_
    rintro e w2 ⟨m, hm1, hm2, rfl, hb2⟩
    have hW2 : Below W.heap.size W w2 := ((Below.refl _ W).drew).trans hb2
    have h2 := Lib.hid (hto.keep (S := fun _ => False) (Turns.of_below hW2) (fun _ _ _ h => h))
    have hB2 := Lib.hid hW2
    have c21 : w2.cell? ⟨w.heap.size, 0, none⟩ = some (TP t) := (hW2.cell (p := ⟨w.heap.size, 0, none⟩) (World.block_lt_of_cell? W _ c1)).trans c1
    have c22 : w2.cell? ⟨s3, 0, none⟩ = some (TP c) := (hW2.cell (p := ⟨s3, 0, none⟩) (World.block_lt_of_cell? W _ c3)).trans c3
    have c23 : w2.cell? ⟨t, 0, none⟩ = some (.pointer (some ⟨L, 0, none⟩)) := (hW2.cell (p := ⟨t, 0, none⟩) (World.block_lt_of_cell? W _ ct)).trans ct
    have c24 : w2.cell? ⟨c, 0, none⟩ = some (.pointer (some ⟨Lo, 0, none⟩)) := (hW2.cell (p := ⟨c, 0, none⟩) (World.block_lt_of_cell? W _ co)).trans co
    clear hb2 hW2
    go_wp2_with fail
    refine hK.out _ _ ⟨c21, c22, c23, c24⟩ (fun hHeld2 => ?_)
    clear hK K hHeld
    refine wpAnyH_ready (rs := [12]) (by kernel_rfl) (by simp) ?_
    refine AllReadyH.cons rfl (fun K hK => ?_) ?_
    rotate_left
    · exact AllReadyH.nil
    go_simp
    refine (put_tb (P := fun k => Po k ∨ w2.heap.size ≤ k) (TabIs.wide h2.out (fun k hk => .inl hk)) (fun k hk => .inr hk) x.k x.v m hm1 hm2 (by omega)).mono ?_
    rintro e w3 ⟨rfl, ht3, hf3⟩
    have hTP : Turns Po W w3 := (Turns.of_below (S := Po) hB2.out).trans (hf3.mono (S' := Po) (fun k hk ho => by rcases ho.1 with h | h; exact h; omega)) (fun _ _ h => h)
    have hz := hfr.size
    have hz2 := hB2.out.size
    have hfr3 : Turns (fun k => ¬ F k) W2 w3 := hfr.trans hTP (fun k _ hk => hpF k hk)
    obtain ⟨hF, hFl, hAt, hPF, hcF, hk1, hk3, _⟩ := HX.out
    have hend : KeepsFrom W2.heap.size W w3 ∧ True ∧ CopyI F W2 c rows (pre ++ [x]) w3 := by
      refine ⟨keeps_turns hTP hpK, trivial, hfr3, ?_, hnx⟩
      rw [hput] at ht3
      have hA : At (grew Po w2.heap.size w3.heap.size) w3 c (pre ++ [x]) := by
        refine ⟨(show Tab (fun k => Po k ∨ w2.heap.size ≤ k) w3 c (pre ++ [x]) from ⟨Lo, xo, sdo, ht3⟩).widen (fun k hk hl => ?_), fun k hk => ?_⟩
        · rcases hk with hk | hk
          · exact .inl hk
          · exact .inr ⟨hk, hl⟩
        · rcases hk with hk | hk
          · exact Nat.lt_of_lt_of_le (hpo.lt k hk) hTP.size
          · exact hk.2
      obtain ⟨P0, p1, p2, p3⟩ := hA.exact
      refine ⟨P0, p1, fun k hk hF' => ?_, p3⟩
      rcases p2 k hk with h | h
      · exact hpF k h hF'
      · have := hFl k hF'
        omega
    have hS3 : w3.cell? ⟨w.heap.size, 0, none⟩ = some (TP t) ∧ w3.cell? ⟨s3, 0, none⟩ = some (TP c) ∧ w3.cell? ⟨t, 0, none⟩ = some (.pointer (some ⟨L, 0, none⟩)) ∧ w3.cell? ⟨c, 0, none⟩ = some (.pointer (some ⟨Lo, 0, none⟩)) := by
      refine ⟨hcF w3 hfr3 _ _ _ (by rw [hF]; omega) hk1, hcF w3 hfr3 _ _ _ (by rw [hF]; omega) hk3, ?_, ht3.hdr.cell 0⟩
      exact (World.cell?_of_block (w := W) (a := ⟨t, 0, none⟩) (hTP.block t (World.block_lt_of_cell? W _ ct) (fun h => hpF t h (hPF t hti.pt)))).trans ct
    have HEND := Lib.hid hend
    clear hTP hz hz2 hfr3 hF hFl hAt hPF hcF hk1 hk3 hend ht3 hf3
    go_wp2_with fail
    refine hK.out _ _ hS3 (fun hHeld3 => ?_)
    refine wpAnyH_done (by kernel_rfl) ?_ _
    clear hK K hHeld2 hHeld3 c21 c22 c23 c24 c1 c3 ct co
    gi_wp2
    exact HEND.out
  case done =>
    rintro D ys W hD hend ⟨hfr, ⟨Po, hpo, hpF, hpK⟩, htold⟩ hK
    have hys := htold.ends hend
    rw [btw_all HS.out] at hys
    subst hys
    have c3 : W.cell? ⟨s3, 0, none⟩ = some (TP c) := hcF W hfr _ _ _ (by rw [hF]; omega) hk3
    have HF : Hid (∃ P', At P' (W.putObj D (.deferred none)) c rows ∧ (∀ k, P' k → w.heap.size ≤ k) ∧ Below w.heap.size w (W.putObj D (.deferred none))) := by
      have hg := Turns.of_grown (grownBy_putObj' W D (.deferred none))
      have hkD : kindOf W D = none := kind_cells hK rfl
      refine ⟨Po, hpo.keep hg (fun k hk e => ?_), fun k hk => ?_, ?_⟩
      · injection e with e
        subst e
        obtain ⟨T, hT⟩ := hpK _ hk
        rw [hkD] at hT
        cases hT
      · have := hpF k hk
        rw [hF] at this
        omega
      · refine (hbW2.trans (hfr.to_below (B := w.heap.size) hbW2.size (fun k hk => ?_))).trans (hg.to_below (Nat.le_trans hbW2.size hfr.size) (fun k e => ?_))
        · rw [hF] at hk; omega
        · injection e with e
          have := hbW2.size
          omega
    clear hfr hpo hpF hpK htold hend hF hFl hAt hPF hcF hk1 hk3 hTT h0I hk hbW1 hb3 hbW2
    gi_wp2
    refine ⟨by simp, .inl ⟨_, _, rfl, run_takeDeferred hK, ?_⟩⟩
    obtain ⟨P', h⟩ := HF.out
    exact ⟨_, results_tmp rfl _ _ _, c, P', rfl, h⟩
  case stop =>
    rintro D c pre W _ h _
    exact h.elim

end Tb
end Go.Proofs.Ytoglklldclgcbaa
