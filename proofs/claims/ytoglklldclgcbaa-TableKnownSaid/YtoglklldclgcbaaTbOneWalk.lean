/-
  Walk: the reference's one change.
-/
import Derived.Test.YtoglklldclgcbaaTbRefOne
namespace Go.Proofs.Ytoglklldclgcbaa
open Go.RowKit Sk
namespace Tb

theorem owns_eq {w : World} {B : Nat} {e : TypeId} {s : Nat} {v : Value} {n n' : Nat} {xs xs' : List Value} (h : w.ownsRow B e s v n xs) (hn : n = n') (hx : xs = xs') : w.ownsRow B e s v n' xs' := by subst hn hx; exact h
def OnePost (p : Nat) (rows : List Row) (o : Chg) (w w' : World) : Prop := ∃ v' w3, w3.ownsRow w.heap.size 39 2 v' (oneT rows o).length (flat rcR (oneT rows o)) ∧ Below w.heap.size w w3 ∧ w' = w3.setCell ⟨p, 0, none⟩ v'
theorem one_plain (rows : List Row) (o : Chg) (n r : Nat) (hn : n = (lo Row.k o.k rows).length) (hr : r = restN o.k rows) : oneT rows o = rows.take n ++ ((if o.d = true then [] else [⟨o.k, o.v⟩]) ++ rows.drop r) := by
  rw [hn, hr, restN_drop, lo_take]
  unfold oneT dropT putT
  split <;> simp

set_option maxRecDepth 100000 in
set_option maxHeartbeats 2000000 in
theorem one_A_true (R : Nat → Prop) (p g c : Nat) (rows : List Row) (ck cv : ByteArray) (w : World) (h : RefIs R w p (.slice (some ⟨g, 0, none⟩) rows.length c) rows) (hlen : rows.length ≤ 1000000) (hcap : rows.length ≤ c) (n r : Nat) (hn : n = (lo Row.k ck rows).length) (hr : r = restN ck rows)
    (z : Row) (hz : rows[n]? = some z) (e1 : (z.k.toList == ck.toList) = true) (hrn : r = n + 1) :
    Calls Try.prog 39 #[TP p, .agg #[.string ck, .string cv, .bool true]] w fun e w' => e = .returned (.tuple #[]) ∧ OnePost p rows ⟨ck, cv, true⟩ w w' := by
  obtain ⟨i0, hi0, hz0, hz1, hz2⟩ := info_parts row_info
  have HI := Lib.hid (And.intro hi0 (And.intro hz0 (And.intro hz1 hz2)))
  have hal : RefIs R (w.alloc (.cells #[.string ck, .string cv, .bool true] 32)) p (.slice (some ⟨g, 0, none⟩) rows.length c) rows := h.keep (S := fun _ => False) ((Turns.refl _ w).alloc _) (fun _ _ h => h)
  have HA := Lib.hid (at_ref R p _ rows ck _ hal hlen)
  rw [← hn] at HA
  have HS := Lib.hid (fun k => src_cells h.own rfl k)
  have HP := Lib.hid (one_plain rows ⟨ck, cv, true⟩ n r hn hr)
  have HSZ : Hid ((Try.prog.info? 39).map (·.size) = some 2) := by show _ = _; rw [hi0, Option.map_some, hz1]
  have c0 : w.cell? ⟨p, 0, none⟩ = some (.slice (some ⟨g, 0, none⟩) rows.length c) := h.hdr.cell 0
  have f0 : w.frozen? ⟨p, 0, none⟩ = false := h.hdr.free 0
  have hp := World.block_lt_of_cell? w _ c0
  have hrl : n ≤ r ∧ r ≤ rows.length := by rw [hn, hr]; exact restN_le ck rows
  have b1 : n < rows.length := (List.getElem?_eq_some_iff.1 hz).1
  have x0 : w.cell? ⟨g, n * 2, none⟩ = some (.string z.k) := by
    have := (HS.out n).2 0 (.string z.k) (by
      have : (rows.drop n)[0]? = some z := by rw [List.getElem?_drop]; exact hz
      have h2 := flat_get (f := rcR) rcR_len this (show 0 < 2 by omega)
      simpa [rcR] using h2)
    rw [addr_add] at this
    exact this
  have b2 : (n : Int) < (rows.length : Int) := by omega
  have hg : g < w.heap.size := by
    have := h.own.lt g rfl
    exact this.2
  have HB0 := Lib.hid (show Below w.heap.size w (w.alloc (.cells #[.string ck, .string cv, .bool true] 32)) from (Below.refl _ w).alloc (Nat.le_refl _) _)
  have hk0 : Blk (w.alloc (.cells #[.string ck, .string cv, .bool true] 32)) w.heap.size 32 #[.string ck, .string cv, .bool true] := Blk.new w _ _
  have HK0 := Lib.hid hk0
  have HCF := Lib.hid (And.intro c0 (And.intro f0 hp))
  clear h hal hn hr hk0 hi0 hz0 hz1 hz2 hz
  subst hrn
  go_enter Try.func39, Try.ntmps39
  go_wp2_with fail
  refine HA.out.mono ?_
  rintro e w' ⟨rfl, rfl⟩
  go_wp2
  go_quiet (fail)
  obtain ⟨W, hW⟩ : ∃ W, (w.alloc (.cells #[.string ck, .string cv, .bool true] 32)).drewN nq = W := ⟨_, rfl⟩
  rw [hW]
  have hbW : Below w.heap.size w W := by rw [← hW]; exact below_drewN' HB0.out nq
  have hkW : Blk W w.heap.size 32 #[.string ck, .string cv, .bool true] := by rw [← hW]; exact HK0.out.drewN nq
  have hBW : w.heap.size ≤ W.heap.size := hbW.size
  have cW : W.cell? ⟨p, 0, none⟩ = some (.slice (some ⟨g, 0, none⟩) rows.length c) := (hbW.cell (p := ⟨p, 0, none⟩) hp).trans c0
  have HBW := Lib.hid (And.intro hbW hkW)
  clear hW hbW hkW c0 f0 x0 b1 b2
  go_wp2_with (at_builtin; refine wpList_append_src rfl (.tmp 34) (.tmp 40) 33 rfl w.heap.size 39 i0 _ 2 32 Try.underlying33 HI.out.1 HI.out.2.1 HI.out.2.2.1 HI.out.2.2.2 rfl (by decide) _ 0 [] rfl (World.ownsRow_nil _ _ _ _) _ n _ (flat rcR (rows.take n)) rfl ?h11 ?h12 ?h13 ?h14 ?h15 ?h16 ?h17 ?_)
  case h11 => rw [flat_length rcR_len, List.length_take]; congr 1; omega
  case h12 => intro h; cases h
  case h13 =>
    intro ad had j u hu
    injection had with had
    subst had
    have := (HS.out n).1 j u hu
    rw [addr_add] at this ⊢
    exact (HBW.out.1.cell (p := ⟨g, _, none⟩) hg).trans this
  case h14 => exact flat_one rcR_one _
  case h15 => unfold maxLen; omega
  case h16 => omega
  case h17 => exact hBW
  intro v1 w1 hown1 hg1
  have hb1 : Below w.heap.size w w1 := HBW.out.1.grown hg1 hBW (fun k hk => by cases hk)
  have hk1 := (Turns.of_grown hg1).blk HBW.out.2 (fun e => by cases e)
  have c1 : w1.cell? ⟨p, 0, none⟩ = some (.slice (some ⟨g, 0, none⟩) rows.length c) := (hb1.cell (p := ⟨p, 0, none⟩) hp).trans HCF.out.1
  have hs1 : w.heap.size ≤ w1.heap.size := hb1.size
  have d1 : w1.cell? ⟨w.heap.size, 2, none⟩ = some (.bool true) := hk1.cell 2
  have HO1 := Lib.hid hown1
  have HB1 := Lib.hid hb1
  clear hown1 hg1 hb1 hk1 cW
  have ecast : ((n : Int) + 1) = ((n + 1 : Nat) : Int) := by omega
  have HE := Lib.hid ecast
  clear ecast
  go_wp2_with (refine wpList_slice_lo rfl 33 39 (.tmp 58) (.tmp 59) rfl g rows.length c (n + 1) 2 .i64 rfl (congrArg (Value.int .i64) HE.out) Try.underlying33 HSZ.out (by omega) hcap ?_)
  intro ad hadd
  have HAD := Lib.hid hadd
  clear hadd
  go_wp2_with (at_builtin; refine wpList_append_src rfl (.tmp 54) (.tmp 60) 33 rfl w.heap.size 39 i0 _ 2 32 Try.underlying33 HI.out.1 HI.out.2.1 HI.out.2.2.1 HI.out.2.2.2 rfl (by decide) _ _ _ rfl HO1.out _ (rows.length - (n + 1)) _ (flat rcR (rows.drop (n + 1))) rfl ?h31 ?h32 ?h33 ?h34 ?h35 ?h36 ?h37 ?_)
  case h31 => rw [flat_length rcR_len, List.length_drop]
  case h32 => intro h; cases h
  case h33 =>
    intro ad had j u hu
    have hj : j < (rows.length - (n + 1)) * 2 := by
      have := (List.getElem?_eq_some_iff.1 hu).1
      rw [flat_length rcR_len, List.length_drop] at this
      exact this
    injection had with had
    subst had
    rw [HAD.out (by omega), addr_add]
    have := (HS.out (n + 1)).2 j u hu
    rw [addr_add] at this
    exact (HB1.out.cell (p := ⟨g, _, none⟩) hg).trans this
  case h34 => exact flat_one rcR_one _
  case h35 => unfold maxLen; omega
  case h36 => omega
  case h37 => exact hs1
  intro v3 w3 hown3 hg3
  have hown3' : w3.ownsRow w.heap.size 39 2 v3 (oneT rows ⟨ck, cv, true⟩).length (flat rcR (oneT rows ⟨ck, cv, true⟩)) := by
    have e1 : (oneT rows ⟨ck, cv, true⟩).length = n + (rows.length - (n + 1)) := by rw [HP.out]; simp; omega
    have e2 : flat rcR (oneT rows ⟨ck, cv, true⟩) = flat rcR (rows.take n) ++ flat rcR (rows.drop (n + 1)) := by rw [HP.out, flat_append, flat_append]; simp [flat]
    exact owns_eq hown3 (by omega) (by simp [e2])
  have hb3 : Below w.heap.size w w3 := HB1.out.grown hg3 hs1 (fun k hk => (HO1.out.lt k hk).1)
  have c3 : w3.cell? ⟨p, 0, none⟩ = some (.slice (some ⟨g, 0, none⟩) rows.length c) := (hb3.cell (p := ⟨p, 0, none⟩) hp).trans HCF.out.1
  have f3 : w3.frozen? ⟨p, 0, none⟩ = false := (hb3.frozen (p := ⟨p, 0, none⟩) hp).trans HCF.out.2.1
  have HF : Hid (OnePost p rows ⟨ck, cv, true⟩ w (w3.setCell ⟨p, 0, none⟩ v3)) := ⟨v3, w3, hown3', hb3, rfl⟩
  have hform := owns_form hown3
  clear hown3 hown3' hg3 hb3 c1 d1
  rcases hform with ⟨hv3, h0, -⟩ | ⟨g3, cap3, hv3, -, -⟩
  · clear h0
    subst hv3
    go_wp2
    refine bodyPost_end (results_none rfl _ _ _) rfl ?_
    exact ⟨rfl, HF.out⟩
  · subst hv3
    go_wp2
    refine bodyPost_end (results_none rfl _ _ _) rfl ?_
    exact ⟨rfl, HF.out⟩

set_option maxRecDepth 100000 in
set_option maxHeartbeats 2000000 in
theorem one_A_false (R : Nat → Prop) (p g c : Nat) (rows : List Row) (ck cv : ByteArray) (w : World) (h : RefIs R w p (.slice (some ⟨g, 0, none⟩) rows.length c) rows) (hlen : rows.length ≤ 1000000) (hcap : rows.length ≤ c) (n r : Nat) (hn : n = (lo Row.k ck rows).length) (hr : r = restN ck rows)
    (z : Row) (hz : rows[n]? = some z) (e1 : (z.k.toList == ck.toList) = true) (hrn : r = n + 1) :
    Calls Try.prog 39 #[TP p, .agg #[.string ck, .string cv, .bool false]] w fun e w' => e = .returned (.tuple #[]) ∧ OnePost p rows ⟨ck, cv, false⟩ w w' := by
  obtain ⟨i0, hi0, hz0, hz1, hz2⟩ := info_parts row_info
  have HI := Lib.hid (And.intro hi0 (And.intro hz0 (And.intro hz1 hz2)))
  have hal : RefIs R (w.alloc (.cells #[.string ck, .string cv, .bool false] 32)) p (.slice (some ⟨g, 0, none⟩) rows.length c) rows := h.keep (S := fun _ => False) ((Turns.refl _ w).alloc _) (fun _ _ h => h)
  have HA := Lib.hid (at_ref R p _ rows ck _ hal hlen)
  rw [← hn] at HA
  have HS := Lib.hid (fun k => src_cells h.own rfl k)
  have HP := Lib.hid (one_plain rows ⟨ck, cv, false⟩ n r hn hr)
  have HSZ : Hid ((Try.prog.info? 39).map (·.size) = some 2) := by show _ = _; rw [hi0, Option.map_some, hz1]
  have c0 : w.cell? ⟨p, 0, none⟩ = some (.slice (some ⟨g, 0, none⟩) rows.length c) := h.hdr.cell 0
  have f0 : w.frozen? ⟨p, 0, none⟩ = false := h.hdr.free 0
  have hp := World.block_lt_of_cell? w _ c0
  have hrl : n ≤ r ∧ r ≤ rows.length := by rw [hn, hr]; exact restN_le ck rows
  have b1 : n < rows.length := (List.getElem?_eq_some_iff.1 hz).1
  have x0 : w.cell? ⟨g, n * 2, none⟩ = some (.string z.k) := by
    have := (HS.out n).2 0 (.string z.k) (by
      have : (rows.drop n)[0]? = some z := by rw [List.getElem?_drop]; exact hz
      have h2 := flat_get (f := rcR) rcR_len this (show 0 < 2 by omega)
      simpa [rcR] using h2)
    rw [addr_add] at this
    exact this
  have b2 : (n : Int) < (rows.length : Int) := by omega
  have hg : g < w.heap.size := by
    have := h.own.lt g rfl
    exact this.2
  have HB0 := Lib.hid (show Below w.heap.size w (w.alloc (.cells #[.string ck, .string cv, .bool false] 32)) from (Below.refl _ w).alloc (Nat.le_refl _) _)
  have hk0 : Blk (w.alloc (.cells #[.string ck, .string cv, .bool false] 32)) w.heap.size 32 #[.string ck, .string cv, .bool false] := Blk.new w _ _
  have HK0 := Lib.hid hk0
  have HCF := Lib.hid (And.intro c0 (And.intro f0 hp))
  clear h hal hn hr hk0 hi0 hz0 hz1 hz2 hz
  subst hrn
  go_enter Try.func39, Try.ntmps39
  go_wp2_with fail
  refine HA.out.mono ?_
  rintro e w' ⟨rfl, rfl⟩
  go_wp2
  go_quiet (fail)
  obtain ⟨W, hW⟩ : ∃ W, (w.alloc (.cells #[.string ck, .string cv, .bool false] 32)).drewN nq = W := ⟨_, rfl⟩
  rw [hW]
  have hbW : Below w.heap.size w W := by rw [← hW]; exact below_drewN' HB0.out nq
  have hkW : Blk W w.heap.size 32 #[.string ck, .string cv, .bool false] := by rw [← hW]; exact HK0.out.drewN nq
  have hBW : w.heap.size ≤ W.heap.size := hbW.size
  have cW : W.cell? ⟨p, 0, none⟩ = some (.slice (some ⟨g, 0, none⟩) rows.length c) := (hbW.cell (p := ⟨p, 0, none⟩) hp).trans c0
  have HBW := Lib.hid (And.intro hbW hkW)
  clear hW hbW hkW c0 f0 x0 b1 b2
  go_wp2_with (at_builtin; refine wpList_append_src rfl (.tmp 34) (.tmp 40) 33 rfl w.heap.size 39 i0 _ 2 32 Try.underlying33 HI.out.1 HI.out.2.1 HI.out.2.2.1 HI.out.2.2.2 rfl (by decide) _ 0 [] rfl (World.ownsRow_nil _ _ _ _) _ n _ (flat rcR (rows.take n)) rfl ?h11 ?h12 ?h13 ?h14 ?h15 ?h16 ?h17 ?_)
  case h11 => rw [flat_length rcR_len, List.length_take]; congr 1; omega
  case h12 => intro h; cases h
  case h13 =>
    intro ad had j u hu
    injection had with had
    subst had
    have := (HS.out n).1 j u hu
    rw [addr_add] at this ⊢
    exact (HBW.out.1.cell (p := ⟨g, _, none⟩) hg).trans this
  case h14 => exact flat_one rcR_one _
  case h15 => unfold maxLen; omega
  case h16 => omega
  case h17 => exact hBW
  intro v1 w1 hown1 hg1
  have hb1 : Below w.heap.size w w1 := HBW.out.1.grown hg1 hBW (fun k hk => by cases hk)
  have hk1 := (Turns.of_grown hg1).blk HBW.out.2 (fun e => by cases e)
  have c1 : w1.cell? ⟨p, 0, none⟩ = some (.slice (some ⟨g, 0, none⟩) rows.length c) := (hb1.cell (p := ⟨p, 0, none⟩) hp).trans HCF.out.1
  have hs1 : w.heap.size ≤ w1.heap.size := hb1.size
  have d1 : w1.cell? ⟨w.heap.size, 2, none⟩ = some (.bool false) := hk1.cell 2
  have d2 : w1.cell? ⟨w.heap.size, 0, none⟩ = some (.string ck) := hk1.cell 0
  have d3 : w1.cell? ⟨w.heap.size, 1, none⟩ = some (.string cv) := hk1.cell 1
  have HO1 := Lib.hid hown1
  have HB1 := Lib.hid hb1
  clear hown1 hg1 hb1 hk1 cW
  go_wp2_with (at_builtin; refine wpList_append_src rfl (.tmp 45) (.tmp 51) 33 rfl w.heap.size 39 i0 _ 2 32 Try.underlying33 HI.out.1 HI.out.2.1 HI.out.2.2.1 HI.out.2.2.2 rfl (by decide) _ _ _ rfl (HO1.out.alloc _) _ 1 _ (rcR ⟨ck, cv⟩) rfl ?h21 ?h22 ?h23 ?h24 ?h25 ?h26 ?h27 ?_)
  case h21 => rfl
  case h22 => intro h; cases h
  case h23 =>
    intro ad had j u hu
    injection had with had
    subst had
    rw [addr_add, Nat.zero_add, World.cell?_alloc_new]
    simpa [rcR] using hu
  case h24 => exact rcR_one _
  case h25 => unfold maxLen; omega
  case h26 => omega
  case h27 => simp; omega
  intro v2 w2 hown2 hg2
  have hb2 : Below w.heap.size w w2 := (HB1.out.alloc hs1 _).grown hg2 (by simp; omega) (fun k hk => (HO1.out.lt k hk).1)
  have c2 : w2.cell? ⟨p, 0, none⟩ = some (.slice (some ⟨g, 0, none⟩) rows.length c) := (hb2.cell (p := ⟨p, 0, none⟩) hp).trans HCF.out.1
  have hs2 : w.heap.size ≤ w2.heap.size := hb2.size
  have HO2 := Lib.hid hown2
  have HB2 := Lib.hid hb2
  clear hown2 hg2 hb2 c1 d1 d2 d3
  have ecast : ((n : Int) + 1) = ((n + 1 : Nat) : Int) := by omega
  have HE := Lib.hid ecast
  clear ecast
  go_wp2_with (refine wpList_slice_lo rfl 33 39 (.tmp 58) (.tmp 59) rfl g rows.length c (n + 1) 2 .i64 rfl (congrArg (Value.int .i64) HE.out) Try.underlying33 HSZ.out (by omega) hcap ?_)
  intro ad hadd
  have HAD := Lib.hid hadd
  clear hadd
  go_wp2_with (at_builtin; refine wpList_append_src rfl (.tmp 54) (.tmp 60) 33 rfl w.heap.size 39 i0 _ 2 32 Try.underlying33 HI.out.1 HI.out.2.1 HI.out.2.2.1 HI.out.2.2.2 rfl (by decide) _ _ _ rfl HO2.out _ (rows.length - (n + 1)) _ (flat rcR (rows.drop (n + 1))) rfl ?h31 ?h32 ?h33 ?h34 ?h35 ?h36 ?h37 ?_)
  case h31 => rw [flat_length rcR_len, List.length_drop]
  case h32 => intro h; cases h
  case h33 =>
    intro ad had j u hu
    have hj : j < (rows.length - (n + 1)) * 2 := by
      have := (List.getElem?_eq_some_iff.1 hu).1
      rw [flat_length rcR_len, List.length_drop] at this
      exact this
    injection had with had
    subst had
    rw [HAD.out (by omega), addr_add]
    have := (HS.out (n + 1)).2 j u hu
    rw [addr_add] at this
    exact (HB2.out.cell (p := ⟨g, _, none⟩) hg).trans this
  case h34 => exact flat_one rcR_one _
  case h35 => unfold maxLen; omega
  case h36 => omega
  case h37 => exact hs2
  intro v3 w3 hown3 hg3
  have hown3' : w3.ownsRow w.heap.size 39 2 v3 (oneT rows ⟨ck, cv, false⟩).length (flat rcR (oneT rows ⟨ck, cv, false⟩)) := by
    have e1 : (oneT rows ⟨ck, cv, false⟩).length = n + 1 + (rows.length - (n + 1)) := by rw [HP.out]; simp; omega
    have e2 : flat rcR (oneT rows ⟨ck, cv, false⟩) = flat rcR (rows.take n) ++ rcR ⟨ck, cv⟩ ++ flat rcR (rows.drop (n + 1)) := by rw [HP.out, flat_append, flat_append]; simp [flat]
    exact owns_eq hown3 (by omega) (by simp [e2])
  have hb3 : Below w.heap.size w w3 := HB2.out.grown hg3 hs2 (fun k hk => (HO2.out.lt k hk).1)
  have c3 : w3.cell? ⟨p, 0, none⟩ = some (.slice (some ⟨g, 0, none⟩) rows.length c) := (hb3.cell (p := ⟨p, 0, none⟩) hp).trans HCF.out.1
  have f3 : w3.frozen? ⟨p, 0, none⟩ = false := (hb3.frozen (p := ⟨p, 0, none⟩) hp).trans HCF.out.2.1
  have HF : Hid (OnePost p rows ⟨ck, cv, false⟩ w (w3.setCell ⟨p, 0, none⟩ v3)) := ⟨v3, w3, hown3', hb3, rfl⟩
  have hform := owns_form hown3
  clear hown3 hown3' hg3 hb3 c2
  rcases hform with ⟨hv3, h0, -⟩ | ⟨g3, cap3, hv3, -, -⟩
  · exact absurd h0 (by first | omega | (simp; done) | (simp; omega))
  · subst hv3
    go_wp2
    refine bodyPost_end (results_none rfl _ _ _) rfl ?_
    exact ⟨rfl, HF.out⟩

set_option maxRecDepth 100000 in
set_option maxHeartbeats 2000000 in
theorem one_B_true (R : Nat → Prop) (p g c : Nat) (rows : List Row) (ck cv : ByteArray) (w : World) (h : RefIs R w p (.slice (some ⟨g, 0, none⟩) rows.length c) rows) (hlen : rows.length ≤ 1000000) (hcap : rows.length ≤ c) (n r : Nat) (hn : n = (lo Row.k ck rows).length) (hr : r = restN ck rows)
    (z : Row) (hz : rows[n]? = some z) (e1 : (z.k.toList == ck.toList) = false) (hrn : n = r) :
    Calls Try.prog 39 #[TP p, .agg #[.string ck, .string cv, .bool true]] w fun e w' => e = .returned (.tuple #[]) ∧ OnePost p rows ⟨ck, cv, true⟩ w w' := by
  obtain ⟨i0, hi0, hz0, hz1, hz2⟩ := info_parts row_info
  have HI := Lib.hid (And.intro hi0 (And.intro hz0 (And.intro hz1 hz2)))
  have hal : RefIs R (w.alloc (.cells #[.string ck, .string cv, .bool true] 32)) p (.slice (some ⟨g, 0, none⟩) rows.length c) rows := h.keep (S := fun _ => False) ((Turns.refl _ w).alloc _) (fun _ _ h => h)
  have HA := Lib.hid (at_ref R p _ rows ck _ hal hlen)
  rw [← hn] at HA
  have HS := Lib.hid (fun k => src_cells h.own rfl k)
  have HP := Lib.hid (one_plain rows ⟨ck, cv, true⟩ n r hn hr)
  have HSZ : Hid ((Try.prog.info? 39).map (·.size) = some 2) := by show _ = _; rw [hi0, Option.map_some, hz1]
  have c0 : w.cell? ⟨p, 0, none⟩ = some (.slice (some ⟨g, 0, none⟩) rows.length c) := h.hdr.cell 0
  have f0 : w.frozen? ⟨p, 0, none⟩ = false := h.hdr.free 0
  have hp := World.block_lt_of_cell? w _ c0
  have hrl : n ≤ r ∧ r ≤ rows.length := by rw [hn, hr]; exact restN_le ck rows
  have b1 : n < rows.length := (List.getElem?_eq_some_iff.1 hz).1
  have x0 : w.cell? ⟨g, n * 2, none⟩ = some (.string z.k) := by
    have := (HS.out n).2 0 (.string z.k) (by
      have : (rows.drop n)[0]? = some z := by rw [List.getElem?_drop]; exact hz
      have h2 := flat_get (f := rcR) rcR_len this (show 0 < 2 by omega)
      simpa [rcR] using h2)
    rw [addr_add] at this
    exact this
  have b2 : (n : Int) < (rows.length : Int) := by omega
  have hg : g < w.heap.size := by
    have := h.own.lt g rfl
    exact this.2
  have HB0 := Lib.hid (show Below w.heap.size w (w.alloc (.cells #[.string ck, .string cv, .bool true] 32)) from (Below.refl _ w).alloc (Nat.le_refl _) _)
  have hk0 : Blk (w.alloc (.cells #[.string ck, .string cv, .bool true] 32)) w.heap.size 32 #[.string ck, .string cv, .bool true] := Blk.new w _ _
  have HK0 := Lib.hid hk0
  have HCF := Lib.hid (And.intro c0 (And.intro f0 hp))
  clear h hal hn hr hk0 hi0 hz0 hz1 hz2 hz
  subst hrn
  go_enter Try.func39, Try.ntmps39
  go_wp2_with fail
  refine HA.out.mono ?_
  rintro e w' ⟨rfl, rfl⟩
  go_wp2
  go_quiet (fail)
  obtain ⟨W, hW⟩ : ∃ W, (w.alloc (.cells #[.string ck, .string cv, .bool true] 32)).drewN nq = W := ⟨_, rfl⟩
  rw [hW]
  have hbW : Below w.heap.size w W := by rw [← hW]; exact below_drewN' HB0.out nq
  have hkW : Blk W w.heap.size 32 #[.string ck, .string cv, .bool true] := by rw [← hW]; exact HK0.out.drewN nq
  have hBW : w.heap.size ≤ W.heap.size := hbW.size
  have cW : W.cell? ⟨p, 0, none⟩ = some (.slice (some ⟨g, 0, none⟩) rows.length c) := (hbW.cell (p := ⟨p, 0, none⟩) hp).trans c0
  have HBW := Lib.hid (And.intro hbW hkW)
  clear hW hbW hkW c0 f0 x0 b1 b2
  go_wp2_with (at_builtin; refine wpList_append_src rfl (.tmp 34) (.tmp 40) 33 rfl w.heap.size 39 i0 _ 2 32 Try.underlying33 HI.out.1 HI.out.2.1 HI.out.2.2.1 HI.out.2.2.2 rfl (by decide) _ 0 [] rfl (World.ownsRow_nil _ _ _ _) _ n _ (flat rcR (rows.take n)) rfl ?h11 ?h12 ?h13 ?h14 ?h15 ?h16 ?h17 ?_)
  case h11 => rw [flat_length rcR_len, List.length_take]; congr 1; omega
  case h12 => intro h; cases h
  case h13 =>
    intro ad had j u hu
    injection had with had
    subst had
    have := (HS.out n).1 j u hu
    rw [addr_add] at this ⊢
    exact (HBW.out.1.cell (p := ⟨g, _, none⟩) hg).trans this
  case h14 => exact flat_one rcR_one _
  case h15 => unfold maxLen; omega
  case h16 => omega
  case h17 => exact hBW
  intro v1 w1 hown1 hg1
  have hb1 : Below w.heap.size w w1 := HBW.out.1.grown hg1 hBW (fun k hk => by cases hk)
  have hk1 := (Turns.of_grown hg1).blk HBW.out.2 (fun e => by cases e)
  have c1 : w1.cell? ⟨p, 0, none⟩ = some (.slice (some ⟨g, 0, none⟩) rows.length c) := (hb1.cell (p := ⟨p, 0, none⟩) hp).trans HCF.out.1
  have hs1 : w.heap.size ≤ w1.heap.size := hb1.size
  have d1 : w1.cell? ⟨w.heap.size, 2, none⟩ = some (.bool true) := hk1.cell 2
  have HO1 := Lib.hid hown1
  have HB1 := Lib.hid hb1
  clear hown1 hg1 hb1 hk1 cW
  go_wp2_with (refine wpList_slice_lo rfl 33 39 (.tmp 58) (.tmp 59) rfl g rows.length c n 2 .i64 rfl rfl Try.underlying33 HSZ.out (by omega) hcap ?_)
  intro ad hadd
  have HAD := Lib.hid hadd
  clear hadd
  go_wp2_with (at_builtin; refine wpList_append_src rfl (.tmp 54) (.tmp 60) 33 rfl w.heap.size 39 i0 _ 2 32 Try.underlying33 HI.out.1 HI.out.2.1 HI.out.2.2.1 HI.out.2.2.2 rfl (by decide) _ _ _ rfl HO1.out _ (rows.length - n) _ (flat rcR (rows.drop n)) rfl ?h31 ?h32 ?h33 ?h34 ?h35 ?h36 ?h37 ?_)
  case h31 => rw [flat_length rcR_len, List.length_drop]
  case h32 => intro h; cases h
  case h33 =>
    intro ad had j u hu
    have hj : j < (rows.length - n) * 2 := by
      have := (List.getElem?_eq_some_iff.1 hu).1
      rw [flat_length rcR_len, List.length_drop] at this
      exact this
    injection had with had
    subst had
    rw [HAD.out (by omega), addr_add]
    have := (HS.out n).2 j u hu
    rw [addr_add] at this
    exact (HB1.out.cell (p := ⟨g, _, none⟩) hg).trans this
  case h34 => exact flat_one rcR_one _
  case h35 => unfold maxLen; omega
  case h36 => omega
  case h37 => exact hs1
  intro v3 w3 hown3 hg3
  have hown3' : w3.ownsRow w.heap.size 39 2 v3 (oneT rows ⟨ck, cv, true⟩).length (flat rcR (oneT rows ⟨ck, cv, true⟩)) := by
    have e1 : (oneT rows ⟨ck, cv, true⟩).length = n + (rows.length - n) := by rw [HP.out]; simp; omega
    have e2 : flat rcR (oneT rows ⟨ck, cv, true⟩) = flat rcR (rows.take n) ++ flat rcR (rows.drop n) := by rw [HP.out, flat_append, flat_append]; simp [flat]
    exact owns_eq hown3 (by omega) (by simp [e2])
  have hb3 : Below w.heap.size w w3 := HB1.out.grown hg3 hs1 (fun k hk => (HO1.out.lt k hk).1)
  have c3 : w3.cell? ⟨p, 0, none⟩ = some (.slice (some ⟨g, 0, none⟩) rows.length c) := (hb3.cell (p := ⟨p, 0, none⟩) hp).trans HCF.out.1
  have f3 : w3.frozen? ⟨p, 0, none⟩ = false := (hb3.frozen (p := ⟨p, 0, none⟩) hp).trans HCF.out.2.1
  have HF : Hid (OnePost p rows ⟨ck, cv, true⟩ w (w3.setCell ⟨p, 0, none⟩ v3)) := ⟨v3, w3, hown3', hb3, rfl⟩
  have hform := owns_form hown3
  clear hown3 hown3' hg3 hb3 c1 d1
  rcases hform with ⟨hv3, h0, -⟩ | ⟨g3, cap3, hv3, -, -⟩
  · clear h0
    subst hv3
    go_wp2
    refine bodyPost_end (results_none rfl _ _ _) rfl ?_
    exact ⟨rfl, HF.out⟩
  · subst hv3
    go_wp2
    refine bodyPost_end (results_none rfl _ _ _) rfl ?_
    exact ⟨rfl, HF.out⟩

set_option maxRecDepth 100000 in
set_option maxHeartbeats 2000000 in
theorem one_B_false (R : Nat → Prop) (p g c : Nat) (rows : List Row) (ck cv : ByteArray) (w : World) (h : RefIs R w p (.slice (some ⟨g, 0, none⟩) rows.length c) rows) (hlen : rows.length ≤ 1000000) (hcap : rows.length ≤ c) (n r : Nat) (hn : n = (lo Row.k ck rows).length) (hr : r = restN ck rows)
    (z : Row) (hz : rows[n]? = some z) (e1 : (z.k.toList == ck.toList) = false) (hrn : n = r) :
    Calls Try.prog 39 #[TP p, .agg #[.string ck, .string cv, .bool false]] w fun e w' => e = .returned (.tuple #[]) ∧ OnePost p rows ⟨ck, cv, false⟩ w w' := by
  obtain ⟨i0, hi0, hz0, hz1, hz2⟩ := info_parts row_info
  have HI := Lib.hid (And.intro hi0 (And.intro hz0 (And.intro hz1 hz2)))
  have hal : RefIs R (w.alloc (.cells #[.string ck, .string cv, .bool false] 32)) p (.slice (some ⟨g, 0, none⟩) rows.length c) rows := h.keep (S := fun _ => False) ((Turns.refl _ w).alloc _) (fun _ _ h => h)
  have HA := Lib.hid (at_ref R p _ rows ck _ hal hlen)
  rw [← hn] at HA
  have HS := Lib.hid (fun k => src_cells h.own rfl k)
  have HP := Lib.hid (one_plain rows ⟨ck, cv, false⟩ n r hn hr)
  have HSZ : Hid ((Try.prog.info? 39).map (·.size) = some 2) := by show _ = _; rw [hi0, Option.map_some, hz1]
  have c0 : w.cell? ⟨p, 0, none⟩ = some (.slice (some ⟨g, 0, none⟩) rows.length c) := h.hdr.cell 0
  have f0 : w.frozen? ⟨p, 0, none⟩ = false := h.hdr.free 0
  have hp := World.block_lt_of_cell? w _ c0
  have hrl : n ≤ r ∧ r ≤ rows.length := by rw [hn, hr]; exact restN_le ck rows
  have b1 : n < rows.length := (List.getElem?_eq_some_iff.1 hz).1
  have x0 : w.cell? ⟨g, n * 2, none⟩ = some (.string z.k) := by
    have := (HS.out n).2 0 (.string z.k) (by
      have : (rows.drop n)[0]? = some z := by rw [List.getElem?_drop]; exact hz
      have h2 := flat_get (f := rcR) rcR_len this (show 0 < 2 by omega)
      simpa [rcR] using h2)
    rw [addr_add] at this
    exact this
  have b2 : (n : Int) < (rows.length : Int) := by omega
  have hg : g < w.heap.size := by
    have := h.own.lt g rfl
    exact this.2
  have HB0 := Lib.hid (show Below w.heap.size w (w.alloc (.cells #[.string ck, .string cv, .bool false] 32)) from (Below.refl _ w).alloc (Nat.le_refl _) _)
  have hk0 : Blk (w.alloc (.cells #[.string ck, .string cv, .bool false] 32)) w.heap.size 32 #[.string ck, .string cv, .bool false] := Blk.new w _ _
  have HK0 := Lib.hid hk0
  have HCF := Lib.hid (And.intro c0 (And.intro f0 hp))
  clear h hal hn hr hk0 hi0 hz0 hz1 hz2 hz
  subst hrn
  go_enter Try.func39, Try.ntmps39
  go_wp2_with fail
  refine HA.out.mono ?_
  rintro e w' ⟨rfl, rfl⟩
  go_wp2
  go_quiet (fail)
  obtain ⟨W, hW⟩ : ∃ W, (w.alloc (.cells #[.string ck, .string cv, .bool false] 32)).drewN nq = W := ⟨_, rfl⟩
  rw [hW]
  have hbW : Below w.heap.size w W := by rw [← hW]; exact below_drewN' HB0.out nq
  have hkW : Blk W w.heap.size 32 #[.string ck, .string cv, .bool false] := by rw [← hW]; exact HK0.out.drewN nq
  have hBW : w.heap.size ≤ W.heap.size := hbW.size
  have cW : W.cell? ⟨p, 0, none⟩ = some (.slice (some ⟨g, 0, none⟩) rows.length c) := (hbW.cell (p := ⟨p, 0, none⟩) hp).trans c0
  have HBW := Lib.hid (And.intro hbW hkW)
  clear hW hbW hkW c0 f0 x0 b1 b2
  go_wp2_with (at_builtin; refine wpList_append_src rfl (.tmp 34) (.tmp 40) 33 rfl w.heap.size 39 i0 _ 2 32 Try.underlying33 HI.out.1 HI.out.2.1 HI.out.2.2.1 HI.out.2.2.2 rfl (by decide) _ 0 [] rfl (World.ownsRow_nil _ _ _ _) _ n _ (flat rcR (rows.take n)) rfl ?h11 ?h12 ?h13 ?h14 ?h15 ?h16 ?h17 ?_)
  case h11 => rw [flat_length rcR_len, List.length_take]; congr 1; omega
  case h12 => intro h; cases h
  case h13 =>
    intro ad had j u hu
    injection had with had
    subst had
    have := (HS.out n).1 j u hu
    rw [addr_add] at this ⊢
    exact (HBW.out.1.cell (p := ⟨g, _, none⟩) hg).trans this
  case h14 => exact flat_one rcR_one _
  case h15 => unfold maxLen; omega
  case h16 => omega
  case h17 => exact hBW
  intro v1 w1 hown1 hg1
  have hb1 : Below w.heap.size w w1 := HBW.out.1.grown hg1 hBW (fun k hk => by cases hk)
  have hk1 := (Turns.of_grown hg1).blk HBW.out.2 (fun e => by cases e)
  have c1 : w1.cell? ⟨p, 0, none⟩ = some (.slice (some ⟨g, 0, none⟩) rows.length c) := (hb1.cell (p := ⟨p, 0, none⟩) hp).trans HCF.out.1
  have hs1 : w.heap.size ≤ w1.heap.size := hb1.size
  have d1 : w1.cell? ⟨w.heap.size, 2, none⟩ = some (.bool false) := hk1.cell 2
  have d2 : w1.cell? ⟨w.heap.size, 0, none⟩ = some (.string ck) := hk1.cell 0
  have d3 : w1.cell? ⟨w.heap.size, 1, none⟩ = some (.string cv) := hk1.cell 1
  have HO1 := Lib.hid hown1
  have HB1 := Lib.hid hb1
  clear hown1 hg1 hb1 hk1 cW
  go_wp2_with (at_builtin; refine wpList_append_src rfl (.tmp 45) (.tmp 51) 33 rfl w.heap.size 39 i0 _ 2 32 Try.underlying33 HI.out.1 HI.out.2.1 HI.out.2.2.1 HI.out.2.2.2 rfl (by decide) _ _ _ rfl (HO1.out.alloc _) _ 1 _ (rcR ⟨ck, cv⟩) rfl ?h21 ?h22 ?h23 ?h24 ?h25 ?h26 ?h27 ?_)
  case h21 => rfl
  case h22 => intro h; cases h
  case h23 =>
    intro ad had j u hu
    injection had with had
    subst had
    rw [addr_add, Nat.zero_add, World.cell?_alloc_new]
    simpa [rcR] using hu
  case h24 => exact rcR_one _
  case h25 => unfold maxLen; omega
  case h26 => omega
  case h27 => simp; omega
  intro v2 w2 hown2 hg2
  have hb2 : Below w.heap.size w w2 := (HB1.out.alloc hs1 _).grown hg2 (by simp; omega) (fun k hk => (HO1.out.lt k hk).1)
  have c2 : w2.cell? ⟨p, 0, none⟩ = some (.slice (some ⟨g, 0, none⟩) rows.length c) := (hb2.cell (p := ⟨p, 0, none⟩) hp).trans HCF.out.1
  have hs2 : w.heap.size ≤ w2.heap.size := hb2.size
  have HO2 := Lib.hid hown2
  have HB2 := Lib.hid hb2
  clear hown2 hg2 hb2 c1 d1 d2 d3
  go_wp2_with (refine wpList_slice_lo rfl 33 39 (.tmp 58) (.tmp 59) rfl g rows.length c n 2 .i64 rfl rfl Try.underlying33 HSZ.out (by omega) hcap ?_)
  intro ad hadd
  have HAD := Lib.hid hadd
  clear hadd
  go_wp2_with (at_builtin; refine wpList_append_src rfl (.tmp 54) (.tmp 60) 33 rfl w.heap.size 39 i0 _ 2 32 Try.underlying33 HI.out.1 HI.out.2.1 HI.out.2.2.1 HI.out.2.2.2 rfl (by decide) _ _ _ rfl HO2.out _ (rows.length - n) _ (flat rcR (rows.drop n)) rfl ?h31 ?h32 ?h33 ?h34 ?h35 ?h36 ?h37 ?_)
  case h31 => rw [flat_length rcR_len, List.length_drop]
  case h32 => intro h; cases h
  case h33 =>
    intro ad had j u hu
    have hj : j < (rows.length - n) * 2 := by
      have := (List.getElem?_eq_some_iff.1 hu).1
      rw [flat_length rcR_len, List.length_drop] at this
      exact this
    injection had with had
    subst had
    rw [HAD.out (by omega), addr_add]
    have := (HS.out n).2 j u hu
    rw [addr_add] at this
    exact (HB2.out.cell (p := ⟨g, _, none⟩) hg).trans this
  case h34 => exact flat_one rcR_one _
  case h35 => unfold maxLen; omega
  case h36 => omega
  case h37 => exact hs2
  intro v3 w3 hown3 hg3
  have hown3' : w3.ownsRow w.heap.size 39 2 v3 (oneT rows ⟨ck, cv, false⟩).length (flat rcR (oneT rows ⟨ck, cv, false⟩)) := by
    have e1 : (oneT rows ⟨ck, cv, false⟩).length = n + 1 + (rows.length - n) := by rw [HP.out]; simp; omega
    have e2 : flat rcR (oneT rows ⟨ck, cv, false⟩) = flat rcR (rows.take n) ++ rcR ⟨ck, cv⟩ ++ flat rcR (rows.drop n) := by rw [HP.out, flat_append, flat_append]; simp [flat]
    exact owns_eq hown3 (by omega) (by simp [e2])
  have hb3 : Below w.heap.size w w3 := HB2.out.grown hg3 hs2 (fun k hk => (HO2.out.lt k hk).1)
  have c3 : w3.cell? ⟨p, 0, none⟩ = some (.slice (some ⟨g, 0, none⟩) rows.length c) := (hb3.cell (p := ⟨p, 0, none⟩) hp).trans HCF.out.1
  have f3 : w3.frozen? ⟨p, 0, none⟩ = false := (hb3.frozen (p := ⟨p, 0, none⟩) hp).trans HCF.out.2.1
  have HF : Hid (OnePost p rows ⟨ck, cv, false⟩ w (w3.setCell ⟨p, 0, none⟩ v3)) := ⟨v3, w3, hown3', hb3, rfl⟩
  have hform := owns_form hown3
  clear hown3 hown3' hg3 hb3 c2
  rcases hform with ⟨hv3, h0, -⟩ | ⟨g3, cap3, hv3, -, -⟩
  · exact absurd h0 (by first | omega | (simp; done) | (simp; omega))
  · subst hv3
    go_wp2
    refine bodyPost_end (results_none rfl _ _ _) rfl ?_
    exact ⟨rfl, HF.out⟩

set_option maxRecDepth 100000 in
set_option maxHeartbeats 2000000 in
theorem one_C_true (R : Nat → Prop) (p g c : Nat) (rows : List Row) (ck cv : ByteArray) (w : World) (h : RefIs R w p (.slice (some ⟨g, 0, none⟩) rows.length c) rows) (hlen : rows.length ≤ 1000000) (hcap : rows.length ≤ c) (n r : Nat) (hn : n = (lo Row.k ck rows).length) (hr : r = restN ck rows)
    (hz : n = rows.length) (hrn : n = r) :
    Calls Try.prog 39 #[TP p, .agg #[.string ck, .string cv, .bool true]] w fun e w' => e = .returned (.tuple #[]) ∧ OnePost p rows ⟨ck, cv, true⟩ w w' := by
  obtain ⟨i0, hi0, hz0, hz1, hz2⟩ := info_parts row_info
  have HI := Lib.hid (And.intro hi0 (And.intro hz0 (And.intro hz1 hz2)))
  have hal : RefIs R (w.alloc (.cells #[.string ck, .string cv, .bool true] 32)) p (.slice (some ⟨g, 0, none⟩) rows.length c) rows := h.keep (S := fun _ => False) ((Turns.refl _ w).alloc _) (fun _ _ h => h)
  have HA := Lib.hid (at_ref R p _ rows ck _ hal hlen)
  rw [← hn] at HA
  have HS := Lib.hid (fun k => src_cells h.own rfl k)
  have HP := Lib.hid (one_plain rows ⟨ck, cv, true⟩ n r hn hr)
  have HSZ : Hid ((Try.prog.info? 39).map (·.size) = some 2) := by show _ = _; rw [hi0, Option.map_some, hz1]
  have c0 : w.cell? ⟨p, 0, none⟩ = some (.slice (some ⟨g, 0, none⟩) rows.length c) := h.hdr.cell 0
  have f0 : w.frozen? ⟨p, 0, none⟩ = false := h.hdr.free 0
  have hp := World.block_lt_of_cell? w _ c0
  have hrl : n ≤ r ∧ r ≤ rows.length := by rw [hn, hr]; exact restN_le ck rows
  have ek : decide ((n : Int) < (rows.length : Int)) = false := by simp; omega
  have ek2 : decide (n < rows.length) = false := by simp; omega
  have hg : g < w.heap.size := by
    have := h.own.lt g rfl
    exact this.2
  have HB0 := Lib.hid (show Below w.heap.size w (w.alloc (.cells #[.string ck, .string cv, .bool true] 32)) from (Below.refl _ w).alloc (Nat.le_refl _) _)
  have hk0 : Blk (w.alloc (.cells #[.string ck, .string cv, .bool true] 32)) w.heap.size 32 #[.string ck, .string cv, .bool true] := Blk.new w _ _
  have HK0 := Lib.hid hk0
  have HCF := Lib.hid (And.intro c0 (And.intro f0 hp))
  clear h hal hn hr hk0 hi0 hz0 hz1 hz2 hz
  subst hrn
  go_enter Try.func39, Try.ntmps39
  go_wp2_with fail
  refine HA.out.mono ?_
  rintro e w' ⟨rfl, rfl⟩
  go_wp2
  go_quiet (fail)
  obtain ⟨W, hW⟩ : ∃ W, (w.alloc (.cells #[.string ck, .string cv, .bool true] 32)).drewN nq = W := ⟨_, rfl⟩
  rw [hW]
  have hbW : Below w.heap.size w W := by rw [← hW]; exact below_drewN' HB0.out nq
  have hkW : Blk W w.heap.size 32 #[.string ck, .string cv, .bool true] := by rw [← hW]; exact HK0.out.drewN nq
  have hBW : w.heap.size ≤ W.heap.size := hbW.size
  have cW : W.cell? ⟨p, 0, none⟩ = some (.slice (some ⟨g, 0, none⟩) rows.length c) := (hbW.cell (p := ⟨p, 0, none⟩) hp).trans c0
  have HBW := Lib.hid (And.intro hbW hkW)
  clear hW hbW hkW c0 f0
  go_wp2_with (at_builtin; refine wpList_append_src rfl (.tmp 34) (.tmp 40) 33 rfl w.heap.size 39 i0 _ 2 32 Try.underlying33 HI.out.1 HI.out.2.1 HI.out.2.2.1 HI.out.2.2.2 rfl (by decide) _ 0 [] rfl (World.ownsRow_nil _ _ _ _) _ n _ (flat rcR (rows.take n)) rfl ?h11 ?h12 ?h13 ?h14 ?h15 ?h16 ?h17 ?_)
  case h11 => rw [flat_length rcR_len, List.length_take]; congr 1; omega
  case h12 => intro h; cases h
  case h13 =>
    intro ad had j u hu
    injection had with had
    subst had
    have := (HS.out n).1 j u hu
    rw [addr_add] at this ⊢
    exact (HBW.out.1.cell (p := ⟨g, _, none⟩) hg).trans this
  case h14 => exact flat_one rcR_one _
  case h15 => unfold maxLen; omega
  case h16 => omega
  case h17 => exact hBW
  intro v1 w1 hown1 hg1
  have hb1 : Below w.heap.size w w1 := HBW.out.1.grown hg1 hBW (fun k hk => by cases hk)
  have hk1 := (Turns.of_grown hg1).blk HBW.out.2 (fun e => by cases e)
  have c1 : w1.cell? ⟨p, 0, none⟩ = some (.slice (some ⟨g, 0, none⟩) rows.length c) := (hb1.cell (p := ⟨p, 0, none⟩) hp).trans HCF.out.1
  have hs1 : w.heap.size ≤ w1.heap.size := hb1.size
  have d1 : w1.cell? ⟨w.heap.size, 2, none⟩ = some (.bool true) := hk1.cell 2
  have HO1 := Lib.hid hown1
  have HB1 := Lib.hid hb1
  clear hown1 hg1 hb1 hk1 cW
  go_wp2_with (refine wpList_slice_lo rfl 33 39 (.tmp 58) (.tmp 59) rfl g rows.length c n 2 .i64 rfl rfl Try.underlying33 HSZ.out (by omega) hcap ?_)
  intro ad hadd
  have HAD := Lib.hid hadd
  clear hadd
  go_wp2_with (at_builtin; refine wpList_append_src rfl (.tmp 54) (.tmp 60) 33 rfl w.heap.size 39 i0 _ 2 32 Try.underlying33 HI.out.1 HI.out.2.1 HI.out.2.2.1 HI.out.2.2.2 rfl (by decide) _ _ _ rfl HO1.out _ (rows.length - n) _ (flat rcR (rows.drop n)) rfl ?h31 ?h32 ?h33 ?h34 ?h35 ?h36 ?h37 ?_)
  case h31 => rw [flat_length rcR_len, List.length_drop]
  case h32 => intro h; cases h
  case h33 =>
    intro ad had j u hu
    have hj : j < (rows.length - n) * 2 := by
      have := (List.getElem?_eq_some_iff.1 hu).1
      rw [flat_length rcR_len, List.length_drop] at this
      exact this
    injection had with had
    subst had
    rw [HAD.out (by omega), addr_add]
    have := (HS.out n).2 j u hu
    rw [addr_add] at this
    exact (HB1.out.cell (p := ⟨g, _, none⟩) hg).trans this
  case h34 => exact flat_one rcR_one _
  case h35 => unfold maxLen; omega
  case h36 => omega
  case h37 => exact hs1
  intro v3 w3 hown3 hg3
  have hown3' : w3.ownsRow w.heap.size 39 2 v3 (oneT rows ⟨ck, cv, true⟩).length (flat rcR (oneT rows ⟨ck, cv, true⟩)) := by
    have e1 : (oneT rows ⟨ck, cv, true⟩).length = n + (rows.length - n) := by rw [HP.out]; simp; omega
    have e2 : flat rcR (oneT rows ⟨ck, cv, true⟩) = flat rcR (rows.take n) ++ flat rcR (rows.drop n) := by rw [HP.out, flat_append, flat_append]; simp [flat]
    exact owns_eq hown3 (by omega) (by simp [e2])
  have hb3 : Below w.heap.size w w3 := HB1.out.grown hg3 hs1 (fun k hk => (HO1.out.lt k hk).1)
  have c3 : w3.cell? ⟨p, 0, none⟩ = some (.slice (some ⟨g, 0, none⟩) rows.length c) := (hb3.cell (p := ⟨p, 0, none⟩) hp).trans HCF.out.1
  have f3 : w3.frozen? ⟨p, 0, none⟩ = false := (hb3.frozen (p := ⟨p, 0, none⟩) hp).trans HCF.out.2.1
  have HF : Hid (OnePost p rows ⟨ck, cv, true⟩ w (w3.setCell ⟨p, 0, none⟩ v3)) := ⟨v3, w3, hown3', hb3, rfl⟩
  have hform := owns_form hown3
  clear hown3 hown3' hg3 hb3 c1 d1
  rcases hform with ⟨hv3, h0, -⟩ | ⟨g3, cap3, hv3, -, -⟩
  · clear h0
    subst hv3
    go_wp2
    refine bodyPost_end (results_none rfl _ _ _) rfl ?_
    exact ⟨rfl, HF.out⟩
  · subst hv3
    go_wp2
    refine bodyPost_end (results_none rfl _ _ _) rfl ?_
    exact ⟨rfl, HF.out⟩

set_option maxRecDepth 100000 in
set_option maxHeartbeats 2000000 in
theorem one_C_false (R : Nat → Prop) (p g c : Nat) (rows : List Row) (ck cv : ByteArray) (w : World) (h : RefIs R w p (.slice (some ⟨g, 0, none⟩) rows.length c) rows) (hlen : rows.length ≤ 1000000) (hcap : rows.length ≤ c) (n r : Nat) (hn : n = (lo Row.k ck rows).length) (hr : r = restN ck rows)
    (hz : n = rows.length) (hrn : n = r) :
    Calls Try.prog 39 #[TP p, .agg #[.string ck, .string cv, .bool false]] w fun e w' => e = .returned (.tuple #[]) ∧ OnePost p rows ⟨ck, cv, false⟩ w w' := by
  obtain ⟨i0, hi0, hz0, hz1, hz2⟩ := info_parts row_info
  have HI := Lib.hid (And.intro hi0 (And.intro hz0 (And.intro hz1 hz2)))
  have hal : RefIs R (w.alloc (.cells #[.string ck, .string cv, .bool false] 32)) p (.slice (some ⟨g, 0, none⟩) rows.length c) rows := h.keep (S := fun _ => False) ((Turns.refl _ w).alloc _) (fun _ _ h => h)
  have HA := Lib.hid (at_ref R p _ rows ck _ hal hlen)
  rw [← hn] at HA
  have HS := Lib.hid (fun k => src_cells h.own rfl k)
  have HP := Lib.hid (one_plain rows ⟨ck, cv, false⟩ n r hn hr)
  have HSZ : Hid ((Try.prog.info? 39).map (·.size) = some 2) := by show _ = _; rw [hi0, Option.map_some, hz1]
  have c0 : w.cell? ⟨p, 0, none⟩ = some (.slice (some ⟨g, 0, none⟩) rows.length c) := h.hdr.cell 0
  have f0 : w.frozen? ⟨p, 0, none⟩ = false := h.hdr.free 0
  have hp := World.block_lt_of_cell? w _ c0
  have hrl : n ≤ r ∧ r ≤ rows.length := by rw [hn, hr]; exact restN_le ck rows
  have ek : decide ((n : Int) < (rows.length : Int)) = false := by simp; omega
  have ek2 : decide (n < rows.length) = false := by simp; omega
  have hg : g < w.heap.size := by
    have := h.own.lt g rfl
    exact this.2
  have HB0 := Lib.hid (show Below w.heap.size w (w.alloc (.cells #[.string ck, .string cv, .bool false] 32)) from (Below.refl _ w).alloc (Nat.le_refl _) _)
  have hk0 : Blk (w.alloc (.cells #[.string ck, .string cv, .bool false] 32)) w.heap.size 32 #[.string ck, .string cv, .bool false] := Blk.new w _ _
  have HK0 := Lib.hid hk0
  have HCF := Lib.hid (And.intro c0 (And.intro f0 hp))
  clear h hal hn hr hk0 hi0 hz0 hz1 hz2 hz
  subst hrn
  go_enter Try.func39, Try.ntmps39
  go_wp2_with fail
  refine HA.out.mono ?_
  rintro e w' ⟨rfl, rfl⟩
  go_wp2
  go_quiet (fail)
  obtain ⟨W, hW⟩ : ∃ W, (w.alloc (.cells #[.string ck, .string cv, .bool false] 32)).drewN nq = W := ⟨_, rfl⟩
  rw [hW]
  have hbW : Below w.heap.size w W := by rw [← hW]; exact below_drewN' HB0.out nq
  have hkW : Blk W w.heap.size 32 #[.string ck, .string cv, .bool false] := by rw [← hW]; exact HK0.out.drewN nq
  have hBW : w.heap.size ≤ W.heap.size := hbW.size
  have cW : W.cell? ⟨p, 0, none⟩ = some (.slice (some ⟨g, 0, none⟩) rows.length c) := (hbW.cell (p := ⟨p, 0, none⟩) hp).trans c0
  have HBW := Lib.hid (And.intro hbW hkW)
  clear hW hbW hkW c0 f0
  go_wp2_with (at_builtin; refine wpList_append_src rfl (.tmp 34) (.tmp 40) 33 rfl w.heap.size 39 i0 _ 2 32 Try.underlying33 HI.out.1 HI.out.2.1 HI.out.2.2.1 HI.out.2.2.2 rfl (by decide) _ 0 [] rfl (World.ownsRow_nil _ _ _ _) _ n _ (flat rcR (rows.take n)) rfl ?h11 ?h12 ?h13 ?h14 ?h15 ?h16 ?h17 ?_)
  case h11 => rw [flat_length rcR_len, List.length_take]; congr 1; omega
  case h12 => intro h; cases h
  case h13 =>
    intro ad had j u hu
    injection had with had
    subst had
    have := (HS.out n).1 j u hu
    rw [addr_add] at this ⊢
    exact (HBW.out.1.cell (p := ⟨g, _, none⟩) hg).trans this
  case h14 => exact flat_one rcR_one _
  case h15 => unfold maxLen; omega
  case h16 => omega
  case h17 => exact hBW
  intro v1 w1 hown1 hg1
  have hb1 : Below w.heap.size w w1 := HBW.out.1.grown hg1 hBW (fun k hk => by cases hk)
  have hk1 := (Turns.of_grown hg1).blk HBW.out.2 (fun e => by cases e)
  have c1 : w1.cell? ⟨p, 0, none⟩ = some (.slice (some ⟨g, 0, none⟩) rows.length c) := (hb1.cell (p := ⟨p, 0, none⟩) hp).trans HCF.out.1
  have hs1 : w.heap.size ≤ w1.heap.size := hb1.size
  have d1 : w1.cell? ⟨w.heap.size, 2, none⟩ = some (.bool false) := hk1.cell 2
  have d2 : w1.cell? ⟨w.heap.size, 0, none⟩ = some (.string ck) := hk1.cell 0
  have d3 : w1.cell? ⟨w.heap.size, 1, none⟩ = some (.string cv) := hk1.cell 1
  have HO1 := Lib.hid hown1
  have HB1 := Lib.hid hb1
  clear hown1 hg1 hb1 hk1 cW
  go_wp2_with (at_builtin; refine wpList_append_src rfl (.tmp 45) (.tmp 51) 33 rfl w.heap.size 39 i0 _ 2 32 Try.underlying33 HI.out.1 HI.out.2.1 HI.out.2.2.1 HI.out.2.2.2 rfl (by decide) _ _ _ rfl (HO1.out.alloc _) _ 1 _ (rcR ⟨ck, cv⟩) rfl ?h21 ?h22 ?h23 ?h24 ?h25 ?h26 ?h27 ?_)
  case h21 => rfl
  case h22 => intro h; cases h
  case h23 =>
    intro ad had j u hu
    injection had with had
    subst had
    rw [addr_add, Nat.zero_add, World.cell?_alloc_new]
    simpa [rcR] using hu
  case h24 => exact rcR_one _
  case h25 => unfold maxLen; omega
  case h26 => omega
  case h27 => simp; omega
  intro v2 w2 hown2 hg2
  have hb2 : Below w.heap.size w w2 := (HB1.out.alloc hs1 _).grown hg2 (by simp; omega) (fun k hk => (HO1.out.lt k hk).1)
  have c2 : w2.cell? ⟨p, 0, none⟩ = some (.slice (some ⟨g, 0, none⟩) rows.length c) := (hb2.cell (p := ⟨p, 0, none⟩) hp).trans HCF.out.1
  have hs2 : w.heap.size ≤ w2.heap.size := hb2.size
  have HO2 := Lib.hid hown2
  have HB2 := Lib.hid hb2
  clear hown2 hg2 hb2 c1 d1 d2 d3
  go_wp2_with (refine wpList_slice_lo rfl 33 39 (.tmp 58) (.tmp 59) rfl g rows.length c n 2 .i64 rfl rfl Try.underlying33 HSZ.out (by omega) hcap ?_)
  intro ad hadd
  have HAD := Lib.hid hadd
  clear hadd
  go_wp2_with (at_builtin; refine wpList_append_src rfl (.tmp 54) (.tmp 60) 33 rfl w.heap.size 39 i0 _ 2 32 Try.underlying33 HI.out.1 HI.out.2.1 HI.out.2.2.1 HI.out.2.2.2 rfl (by decide) _ _ _ rfl HO2.out _ (rows.length - n) _ (flat rcR (rows.drop n)) rfl ?h31 ?h32 ?h33 ?h34 ?h35 ?h36 ?h37 ?_)
  case h31 => rw [flat_length rcR_len, List.length_drop]
  case h32 => intro h; cases h
  case h33 =>
    intro ad had j u hu
    have hj : j < (rows.length - n) * 2 := by
      have := (List.getElem?_eq_some_iff.1 hu).1
      rw [flat_length rcR_len, List.length_drop] at this
      exact this
    injection had with had
    subst had
    rw [HAD.out (by omega), addr_add]
    have := (HS.out n).2 j u hu
    rw [addr_add] at this
    exact (HB2.out.cell (p := ⟨g, _, none⟩) hg).trans this
  case h34 => exact flat_one rcR_one _
  case h35 => unfold maxLen; omega
  case h36 => omega
  case h37 => exact hs2
  intro v3 w3 hown3 hg3
  have hown3' : w3.ownsRow w.heap.size 39 2 v3 (oneT rows ⟨ck, cv, false⟩).length (flat rcR (oneT rows ⟨ck, cv, false⟩)) := by
    have e1 : (oneT rows ⟨ck, cv, false⟩).length = n + 1 + (rows.length - n) := by rw [HP.out]; simp; omega
    have e2 : flat rcR (oneT rows ⟨ck, cv, false⟩) = flat rcR (rows.take n) ++ rcR ⟨ck, cv⟩ ++ flat rcR (rows.drop n) := by rw [HP.out, flat_append, flat_append]; simp [flat]
    exact owns_eq hown3 (by omega) (by simp [e2])
  have hb3 : Below w.heap.size w w3 := HB2.out.grown hg3 hs2 (fun k hk => (HO2.out.lt k hk).1)
  have c3 : w3.cell? ⟨p, 0, none⟩ = some (.slice (some ⟨g, 0, none⟩) rows.length c) := (hb3.cell (p := ⟨p, 0, none⟩) hp).trans HCF.out.1
  have f3 : w3.frozen? ⟨p, 0, none⟩ = false := (hb3.frozen (p := ⟨p, 0, none⟩) hp).trans HCF.out.2.1
  have HF : Hid (OnePost p rows ⟨ck, cv, false⟩ w (w3.setCell ⟨p, 0, none⟩ v3)) := ⟨v3, w3, hown3', hb3, rfl⟩
  have hform := owns_form hown3
  clear hown3 hown3' hg3 hb3 c2
  rcases hform with ⟨hv3, h0, -⟩ | ⟨g3, cap3, hv3, -, -⟩
  · exact absurd h0 (by first | omega | (simp; done) | (simp; omega))
  · subst hv3
    go_wp2
    refine bodyPost_end (results_none rfl _ _ _) rfl ?_
    exact ⟨rfl, HF.out⟩

set_option maxRecDepth 100000 in
set_option maxHeartbeats 2000000 in
theorem one_N_true (R : Nat → Prop) (p : Nat) (ck cv : ByteArray) (w : World) (h : RefIs R w p (.slice none 0 0) []) :
    Calls Try.prog 39 #[TP p, .agg #[.string ck, .string cv, .bool true]] w fun e w' => e = .returned (.tuple #[]) ∧ OnePost p [] ⟨ck, cv, true⟩ w w' := by
  obtain ⟨i0, hi0, hz0, hz1, hz2⟩ := info_parts row_info
  have HI := Lib.hid (And.intro hi0 (And.intro hz0 (And.intro hz1 hz2)))
  have hal : RefIs R (w.alloc (.cells #[.string ck, .string cv, .bool true] 32)) p (.slice none 0 0) [] := h.keep (S := fun _ => False) ((Turns.refl _ w).alloc _) (fun _ _ h => h)
  have HA : Hid (Calls Try.prog 42 #[TP p, .string ck] (w.alloc (.cells #[.string ck, .string cv, .bool true] 32)) fun e w' => e = .returned (.int .i64 0) ∧ w.alloc (.cells #[.string ck, .string cv, .bool true] 32) = w') := at_ref R p _ [] ck _ hal (by simp)
  have HP := Lib.hid (one_plain [] ⟨ck, cv, true⟩ 0 0 rfl rfl)
  have c0 : w.cell? ⟨p, 0, none⟩ = some (.slice none 0 0) := h.hdr.cell 0
  have f0 : w.frozen? ⟨p, 0, none⟩ = false := h.hdr.free 0
  have hp := World.block_lt_of_cell? w _ c0
  have HB0 := Lib.hid (show Below w.heap.size w (w.alloc (.cells #[.string ck, .string cv, .bool true] 32)) from (Below.refl _ w).alloc (Nat.le_refl _) _)
  have hk0 : Blk (w.alloc (.cells #[.string ck, .string cv, .bool true] 32)) w.heap.size 32 #[.string ck, .string cv, .bool true] := Blk.new w _ _
  have HK0 := Lib.hid hk0
  have HCF := Lib.hid (And.intro c0 (And.intro f0 hp))
  clear h hal hk0 hi0 hz0 hz1 hz2
  go_enter Try.func39, Try.ntmps39
  go_wp2_with fail
  refine HA.out.mono ?_
  rintro e w' ⟨rfl, rfl⟩
  go_wp2
  go_quiet (fail)
  obtain ⟨W, hW⟩ : ∃ W, (w.alloc (.cells #[.string ck, .string cv, .bool true] 32)).drewN nq = W := ⟨_, rfl⟩
  rw [hW]
  have hbW : Below w.heap.size w W := by rw [← hW]; exact below_drewN' HB0.out nq
  have hkW : Blk W w.heap.size 32 #[.string ck, .string cv, .bool true] := by rw [← hW]; exact HK0.out.drewN nq
  have hBW : w.heap.size ≤ W.heap.size := hbW.size
  have cW : W.cell? ⟨p, 0, none⟩ = some (.slice none 0 0) := (hbW.cell (p := ⟨p, 0, none⟩) hp).trans c0
  have HBW := Lib.hid (And.intro hbW hkW)
  clear hW hbW hkW c0 f0
  go_wp2_with (at_builtin; refine wpList_append_src rfl (.tmp 34) (.tmp 40) 33 rfl w.heap.size 39 i0 _ 2 32 Try.underlying33 HI.out.1 HI.out.2.1 HI.out.2.2.1 HI.out.2.2.2 rfl (by decide) _ 0 [] rfl (World.ownsRow_nil _ _ _ _) _ 0 _ ([]) rfl ?h11 ?h12 ?h13 ?h14 ?h15 ?h16 ?h17 ?_)
  case h11 => rfl
  case h13 => intro ad had; cases had
  case h14 => intro u hu; cases hu
  case h15 => unfold maxLen; omega
  case h16 => omega
  case h17 => exact hBW
  intro v1 w1 hown1 hg1
  have hb1 : Below w.heap.size w w1 := HBW.out.1.grown hg1 hBW (fun k hk => by cases hk)
  have hk1 := (Turns.of_grown hg1).blk HBW.out.2 (fun e => by cases e)
  have c1 : w1.cell? ⟨p, 0, none⟩ = some (.slice none 0 0) := (hb1.cell (p := ⟨p, 0, none⟩) hp).trans HCF.out.1
  have hs1 : w.heap.size ≤ w1.heap.size := hb1.size
  have d1 : w1.cell? ⟨w.heap.size, 2, none⟩ = some (.bool true) := hk1.cell 2
  have HO1 := Lib.hid hown1
  have HB1 := Lib.hid hb1
  clear hown1 hg1 hb1 hk1 cW
  go_wp2_with (at_builtin; refine wpList_append_src rfl (.tmp 54) (.tmp 60) 33 rfl w.heap.size 39 i0 _ 2 32 Try.underlying33 HI.out.1 HI.out.2.1 HI.out.2.2.1 HI.out.2.2.2 rfl (by decide) _ _ _ rfl HO1.out _ 0 _ ([]) rfl ?h31 ?h32 ?h33 ?h34 ?h35 ?h36 ?h37 ?_)
  case h31 => rfl
  case h33 => intro ad had; cases had
  case h34 => intro u hu; cases hu
  case h35 => unfold maxLen; omega
  case h36 => omega
  case h37 => exact hs1
  intro v3 w3 hown3 hg3
  have hown3' : w3.ownsRow w.heap.size 39 2 v3 (oneT ([] : List Row) ⟨ck, cv, true⟩).length (flat rcR (oneT ([] : List Row) ⟨ck, cv, true⟩)) := by
    exact owns_eq hown3 (by rw [HP.out]; rfl) (by rw [HP.out]; rfl)
  have hb3 : Below w.heap.size w w3 := HB1.out.grown hg3 hs1 (fun k hk => (HO1.out.lt k hk).1)
  have c3 : w3.cell? ⟨p, 0, none⟩ = some (.slice none 0 0) := (hb3.cell (p := ⟨p, 0, none⟩) hp).trans HCF.out.1
  have f3 : w3.frozen? ⟨p, 0, none⟩ = false := (hb3.frozen (p := ⟨p, 0, none⟩) hp).trans HCF.out.2.1
  have HF : Hid (OnePost p ([] : List Row) ⟨ck, cv, true⟩ w (w3.setCell ⟨p, 0, none⟩ v3)) := ⟨v3, w3, hown3', hb3, rfl⟩
  have hform := owns_form hown3
  clear hown3 hown3' hg3 hb3 c1 d1
  rcases hform with ⟨hv3, h0, -⟩ | ⟨g3, cap3, hv3, -, -⟩
  · clear h0
    subst hv3
    go_wp2
    refine bodyPost_end (results_none rfl _ _ _) rfl ?_
    exact ⟨rfl, HF.out⟩
  · subst hv3
    go_wp2
    refine bodyPost_end (results_none rfl _ _ _) rfl ?_
    exact ⟨rfl, HF.out⟩

set_option maxRecDepth 100000 in
set_option maxHeartbeats 2000000 in
theorem one_N_false (R : Nat → Prop) (p : Nat) (ck cv : ByteArray) (w : World) (h : RefIs R w p (.slice none 0 0) []) :
    Calls Try.prog 39 #[TP p, .agg #[.string ck, .string cv, .bool false]] w fun e w' => e = .returned (.tuple #[]) ∧ OnePost p [] ⟨ck, cv, false⟩ w w' := by
  obtain ⟨i0, hi0, hz0, hz1, hz2⟩ := info_parts row_info
  have HI := Lib.hid (And.intro hi0 (And.intro hz0 (And.intro hz1 hz2)))
  have hal : RefIs R (w.alloc (.cells #[.string ck, .string cv, .bool false] 32)) p (.slice none 0 0) [] := h.keep (S := fun _ => False) ((Turns.refl _ w).alloc _) (fun _ _ h => h)
  have HA : Hid (Calls Try.prog 42 #[TP p, .string ck] (w.alloc (.cells #[.string ck, .string cv, .bool false] 32)) fun e w' => e = .returned (.int .i64 0) ∧ w.alloc (.cells #[.string ck, .string cv, .bool false] 32) = w') := at_ref R p _ [] ck _ hal (by simp)
  have HP := Lib.hid (one_plain [] ⟨ck, cv, false⟩ 0 0 rfl rfl)
  have c0 : w.cell? ⟨p, 0, none⟩ = some (.slice none 0 0) := h.hdr.cell 0
  have f0 : w.frozen? ⟨p, 0, none⟩ = false := h.hdr.free 0
  have hp := World.block_lt_of_cell? w _ c0
  have HB0 := Lib.hid (show Below w.heap.size w (w.alloc (.cells #[.string ck, .string cv, .bool false] 32)) from (Below.refl _ w).alloc (Nat.le_refl _) _)
  have hk0 : Blk (w.alloc (.cells #[.string ck, .string cv, .bool false] 32)) w.heap.size 32 #[.string ck, .string cv, .bool false] := Blk.new w _ _
  have HK0 := Lib.hid hk0
  have HCF := Lib.hid (And.intro c0 (And.intro f0 hp))
  clear h hal hk0 hi0 hz0 hz1 hz2
  go_enter Try.func39, Try.ntmps39
  go_wp2_with fail
  refine HA.out.mono ?_
  rintro e w' ⟨rfl, rfl⟩
  go_wp2
  go_quiet (fail)
  obtain ⟨W, hW⟩ : ∃ W, (w.alloc (.cells #[.string ck, .string cv, .bool false] 32)).drewN nq = W := ⟨_, rfl⟩
  rw [hW]
  have hbW : Below w.heap.size w W := by rw [← hW]; exact below_drewN' HB0.out nq
  have hkW : Blk W w.heap.size 32 #[.string ck, .string cv, .bool false] := by rw [← hW]; exact HK0.out.drewN nq
  have hBW : w.heap.size ≤ W.heap.size := hbW.size
  have cW : W.cell? ⟨p, 0, none⟩ = some (.slice none 0 0) := (hbW.cell (p := ⟨p, 0, none⟩) hp).trans c0
  have HBW := Lib.hid (And.intro hbW hkW)
  clear hW hbW hkW c0 f0
  go_wp2_with (at_builtin; refine wpList_append_src rfl (.tmp 34) (.tmp 40) 33 rfl w.heap.size 39 i0 _ 2 32 Try.underlying33 HI.out.1 HI.out.2.1 HI.out.2.2.1 HI.out.2.2.2 rfl (by decide) _ 0 [] rfl (World.ownsRow_nil _ _ _ _) _ 0 _ ([]) rfl ?h11 ?h12 ?h13 ?h14 ?h15 ?h16 ?h17 ?_)
  case h11 => rfl
  case h13 => intro ad had; cases had
  case h14 => intro u hu; cases hu
  case h15 => unfold maxLen; omega
  case h16 => omega
  case h17 => exact hBW
  intro v1 w1 hown1 hg1
  have hb1 : Below w.heap.size w w1 := HBW.out.1.grown hg1 hBW (fun k hk => by cases hk)
  have hk1 := (Turns.of_grown hg1).blk HBW.out.2 (fun e => by cases e)
  have c1 : w1.cell? ⟨p, 0, none⟩ = some (.slice none 0 0) := (hb1.cell (p := ⟨p, 0, none⟩) hp).trans HCF.out.1
  have hs1 : w.heap.size ≤ w1.heap.size := hb1.size
  have d1 : w1.cell? ⟨w.heap.size, 2, none⟩ = some (.bool false) := hk1.cell 2
  have d2 : w1.cell? ⟨w.heap.size, 0, none⟩ = some (.string ck) := hk1.cell 0
  have d3 : w1.cell? ⟨w.heap.size, 1, none⟩ = some (.string cv) := hk1.cell 1
  have HO1 := Lib.hid hown1
  have HB1 := Lib.hid hb1
  clear hown1 hg1 hb1 hk1 cW
  go_wp2_with (at_builtin; refine wpList_append_src rfl (.tmp 45) (.tmp 51) 33 rfl w.heap.size 39 i0 _ 2 32 Try.underlying33 HI.out.1 HI.out.2.1 HI.out.2.2.1 HI.out.2.2.2 rfl (by decide) _ _ _ rfl (HO1.out.alloc _) _ 1 _ (rcR ⟨ck, cv⟩) rfl ?h21 ?h22 ?h23 ?h24 ?h25 ?h26 ?h27 ?_)
  case h21 => rfl
  case h22 => intro h; cases h
  case h23 =>
    intro ad had j u hu
    injection had with had
    subst had
    rw [addr_add, Nat.zero_add, World.cell?_alloc_new]
    simpa [rcR] using hu
  case h24 => exact rcR_one _
  case h25 => unfold maxLen; omega
  case h26 => omega
  case h27 => simp; omega
  intro v2 w2 hown2 hg2
  have hb2 : Below w.heap.size w w2 := (HB1.out.alloc hs1 _).grown hg2 (by simp; omega) (fun k hk => (HO1.out.lt k hk).1)
  have c2 : w2.cell? ⟨p, 0, none⟩ = some (.slice none 0 0) := (hb2.cell (p := ⟨p, 0, none⟩) hp).trans HCF.out.1
  have hs2 : w.heap.size ≤ w2.heap.size := hb2.size
  have HO2 := Lib.hid hown2
  have HB2 := Lib.hid hb2
  clear hown2 hg2 hb2 c1 d1 d2 d3
  go_wp2_with (at_builtin; refine wpList_append_src rfl (.tmp 54) (.tmp 60) 33 rfl w.heap.size 39 i0 _ 2 32 Try.underlying33 HI.out.1 HI.out.2.1 HI.out.2.2.1 HI.out.2.2.2 rfl (by decide) _ _ _ rfl HO2.out _ 0 _ ([]) rfl ?h31 ?h32 ?h33 ?h34 ?h35 ?h36 ?h37 ?_)
  case h31 => rfl
  case h33 => intro ad had; cases had
  case h34 => intro u hu; cases hu
  case h35 => unfold maxLen; omega
  case h36 => omega
  case h37 => exact hs2
  intro v3 w3 hown3 hg3
  have hown3' : w3.ownsRow w.heap.size 39 2 v3 (oneT ([] : List Row) ⟨ck, cv, false⟩).length (flat rcR (oneT ([] : List Row) ⟨ck, cv, false⟩)) := by
    exact owns_eq hown3 (by rw [HP.out]; rfl) (by rw [HP.out]; rfl)
  have hb3 : Below w.heap.size w w3 := HB2.out.grown hg3 hs2 (fun k hk => (HO2.out.lt k hk).1)
  have c3 : w3.cell? ⟨p, 0, none⟩ = some (.slice none 0 0) := (hb3.cell (p := ⟨p, 0, none⟩) hp).trans HCF.out.1
  have f3 : w3.frozen? ⟨p, 0, none⟩ = false := (hb3.frozen (p := ⟨p, 0, none⟩) hp).trans HCF.out.2.1
  have HF : Hid (OnePost p ([] : List Row) ⟨ck, cv, false⟩ w (w3.setCell ⟨p, 0, none⟩ v3)) := ⟨v3, w3, hown3', hb3, rfl⟩
  have hform := owns_form hown3
  clear hown3 hown3' hg3 hb3 c2
  rcases hform with ⟨hv3, h0, -⟩ | ⟨g3, cap3, hv3, -, -⟩
  · exact absurd h0 (by first | omega | (simp; done) | (simp; omega))
  · subst hv3
    go_wp2
    refine bodyPost_end (results_none rfl _ _ _) rfl ?_
    exact ⟨rfl, HF.out⟩

end Tb
end Go.Proofs.Ytoglklldclgcbaa
