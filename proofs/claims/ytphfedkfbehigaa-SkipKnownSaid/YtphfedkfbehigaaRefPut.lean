/-
  Walks: the reference's list (scriptoriumref09): 'Put', 'Drop'.
-/
import Derived.Test.YtphfedkfbehigaaRefHas
namespace Go.Proofs.Ytphfedkfbehigaa
open Go.RowKit Sk
namespace Rf

theorem it_info : (Try.prog.info? 67).map (fun i => (i.zero, i.size, i.bytes)) = some (some (.agg #[.string ⟨#[]⟩, .int .i64 0, .int .i64 0]), 3, 32) := by kernel_rfl
theorem rc_one : ∀ x : It, ∀ u ∈ rc x, u.oneCell' = true := by
  intro x u hu
  simp only [rc, List.mem_cons, List.not_mem_nil, or_false] at hu
  rcases hu with rfl | rfl | rfl <;> rfl

/-- what blocks the reference's list has -/
def mine (p : Nat) (v : Value) (k : Nat) : Prop := k = p ∨ v.ownBlock = some k

set_option maxHeartbeats 400000 in
theorem Put_out (p : Nat) (key : ByteArray) (a s : Int) (w : World) (hs : s < 1 ∨ 16 < s) :
    Calls Try.prog 42 #[.pointer (some ⟨p, 0, none⟩), .string key, .int .i64 a, .int .i64 s] w fun e w' => e = .returned (.bool false) ∧ w = w' := by
  by_cases h1 : s < 1
  · clear hs
    go_enter Try.func42, Try.ntmps42
    go_wp2
    go_ret
    exact ⟨rfl, rfl⟩
  · have h2 : 16 < s := by omega
    clear hs
    go_enter Try.func42, Try.ntmps42
    go_wp2
    go_ret
    exact ⟨rfl, rfl⟩

theorem Is.stored {B : Nat} {w : World} {p g cap : Nat} {l : List It} (h : Is B w p (.slice (some ⟨g, 0, none⟩) l.length cap) l) {k : Nat} {x : It} (hx : l[k]? = some x) (a : Int) :
    Is B (w.setCell ⟨g, k * 3 + 1, none⟩ (.int .i64 a)) p (.slice (some ⟨g, 0, none⟩) l.length cap) (l.set k ⟨x.k, a, x.s⟩) := by
  have hpg : p ≠ g := by
    obtain ⟨cs, hg⟩ := owns_blk h.own
    intro e
    have h1 := h.hdr
    unfold Blk at h1 hg
    rw [e, hg] at h1
    injection h1 with h1
    injection h1 with _ h1
    exact absurd h1 (by decide)
  refine ⟨h.hdr.far (p := ⟨g, k * 3 + 1, none⟩) hpg _, h.pB, ?_⟩
  have := h.own.stored (k * 3 + 1) (.int .i64 a)
  rw [flat_set rc_len hx (by omega) (y := ⟨x.k, a, x.s⟩) (.int .i64 a) rfl] at this
  simpa using this.1

set_option maxHeartbeats 400000 in
theorem Put_old (B p : Nat) (v : Value) (l : List It) (x : It) (key : ByteArray) (a : Int) (s : Nat) (w : World) (h : Is B w p v l) (hlen : l.length ≤ 1000000) (hx : seek It.k key l = some x) (hs1 : 1 ≤ s) (hs2 : s ≤ 16) :
    Calls Try.prog 42 #[.pointer (some ⟨p, 0, none⟩), .string key, .int .i64 a, .int .i64 s] w fun e w' => e = .returned (.bool true) ∧
      Is B w' p v (l.set (lo It.k key l).length ⟨x.k, a, x.s⟩) ∧ Turns (mine p v) w w' := by
  have b1 : ¬ ((s : Int) < 1) := by omega
  have b2 : ¬ (16 < (s : Int)) := by omega
  obtain ⟨hget, hlt⟩ := seek_get hx
  rcases h.form with ⟨rfl, rfl⟩ | ⟨g, cap, rfl, _, hcap⟩
  · simp at hlt
  · have hc' : w.cell? ⟨p, 0, none⟩ = some (.slice (some ⟨g, 0, none⟩) l.length cap) := h.hdr.cell 0
    obtain ⟨_, _, c1, _⟩ := h.cells hget
    have f1 : w.frozen? ⟨g, (lo It.k key l).length * 3 + 1, none⟩ = false := h.own.frozenAt _
    have HS := Lib.hid (h.stored hget a)
    have HA := Lib.hid (at_any B p _ l key w h hlen)
    have hhas := has_at B p _ l key w h hlen
    rw [hx] at hhas
    have HH := Lib.hid hhas
    generalize (lo It.k key l).length = n at *
    clear h hget hx hhas hlen
    go_enter Try.func42, Try.ntmps42
    go_wp2_with fail
    refine HA.out.mono ?_
    rintro e w1 ⟨rfl, rfl⟩
    go_wp2_with fail
    refine HH.out.mono ?_
    rintro e w1 ⟨rfl, rfl⟩
    go_wp2
    go_ret
    exact ⟨rfl, HS.out, Turns.setCell (S := mine p _) (p := ⟨g, n * 3 + 1, none⟩) (Turns.refl _ _) (fun _ => .inr rfl) _⟩

set_option maxHeartbeats 1000000 in
theorem Put_new (B p : Nat) (v : Value) (l : List It) (key : ByteArray) (a : Int) (s : Nat) (w : World) (h : Is B w p v l) (hlen : l.length ≤ 1000000) (hx : seek It.k key l = none) (hs1 : 1 ≤ s) (hs2 : s ≤ 16) :
    Calls Try.prog 42 #[.pointer (some ⟨p, 0, none⟩), .string key, .int .i64 a, .int .i64 s] w fun e w' => e = .returned (.bool true) ∧
      ∃ v', Is B w' p v' (lo It.k key l ++ ⟨key, a, s⟩ :: hi It.k key l) ∧ Turns (mine p v) w w' ∧ ∀ g, v'.ownBlock = some g → w.heap.size ≤ g := by
  obtain ⟨i0, hi0, hz0, hz1, hz2⟩ := info_parts it_info
  have b1 : ¬ ((s : Int) < 1) := by omega
  have b2 : ¬ (16 < (s : Int)) := by omega
  have hle := lo_le It.k key l
  have HB := Lib.hid (show B ≤ w.heap.size from Nat.le_trans h.pB (Nat.le_of_lt h.hdr.lt))
  have HA := Lib.hid (at_any B p _ l key w h hlen)
  have hhas := has_at B p _ l key w h hlen
  rw [hx] at hhas
  have HH := Lib.hid hhas
  clear hhas hx
  rcases h.form with ⟨rfl, rfl⟩ | ⟨g, cap, rfl, hgB, hcap⟩
  · have hc' : w.cell? ⟨p, 0, none⟩ = some (.slice none 0 0) := h.hdr.cell 0
    have hpl := h.hdr.lt
    have HI := Lib.hid h
    have e0 : lo It.k key [] = [] := rfl
    rw [e0] at HA HH
    clear h hle e0
    go_enter Try.func42, Try.ntmps42
    go_wp2_with fail
    refine HA.out.mono ?_
    rintro e w1 ⟨rfl, rfl⟩
    go_wp2_with fail
    refine HH.out.mono ?_
    rintro e w1 ⟨rfl, rfl⟩
    go_wp2_with (at_builtin; refine wpList_append_src rfl (.tmp 32) (.tmp 38) 61 rfl w.heap.size 67 i0 _ 3 32 Try.underlying61 hi0 hz0 hz1 hz2 rfl (by decide) _ 0 [] rfl (World.ownsRow_nil _ _ _ _) _ 0 _ [] rfl ?h01 ?h02 ?h03 ?h04 ?h05 ?h06 (Nat.le_refl _) ?_)
    case h01 => rfl
    case h03 => intro ad had; cases had
    case h04 => intro u hu; cases hu
    case h05 => unfold maxLen; omega
    case h06 => omega
    intro v1 w1 hown1 hg1
    have hb1 : Below w.heap.size w w1 := (Below.refl _ _).grown hg1 (Nat.le_refl _) (fun k hk => by cases hk)
    have hc1 : w1.cell? ⟨p, 0, none⟩ = some (.slice none 0 0) := (hb1.cell (p := ⟨p, 0, none⟩) hpl).trans hc'
    have hs1' : w.heap.size ≤ w1.heap.size := hb1.size
    have HO1 := Lib.hid hown1
    have HB1 := Lib.hid hb1
    clear hown1 hg1 hb1
    go_wp2_with (at_builtin; refine wpList_append_src rfl (.tmp 40) (.tmp 45) 61 rfl w.heap.size 67 i0 _ 3 32 Try.underlying61 hi0 hz0 hz1 hz2 rfl (by decide) _ _ _ rfl (HO1.out.alloc _) _ 1 _ (rc ⟨key, a, s⟩) rfl ?h11 ?h12 ?h13 ?h14 ?h15 ?h16 ?h17 ?_)
    case h11 => rfl
    case h12 => intro h; cases h
    case h13 =>
      intro ad had j u hu
      injection had with had
      subst had
      rw [addr_add, Nat.zero_add, World.cell?_alloc_new]
      simpa [rc] using hu
    case h14 => exact rc_one _
    case h15 => unfold maxLen; omega
    case h16 => omega
    case h17 => simp; omega
    intro v2 w2 hown2 hg2
    obtain ⟨g2, cap2, rfl⟩ := owns_some hown2
    have hb2 : Below w.heap.size w w2 := (HB1.out.alloc hs1' _).grown hg2 (by simp; omega) (fun k hk => (HO1.out.lt k hk).1)
    have hc2 : w2.cell? ⟨p, 0, none⟩ = some (.slice none 0 0) := (hb2.cell (p := ⟨p, 0, none⟩) hpl).trans hc'
    have hs2' : w.heap.size ≤ w2.heap.size := hb2.size
    have HO2 := Lib.hid hown2
    have HB2 := Lib.hid hb2
    clear hown2 hg2 hb2 hc1
    go_wp2_with (at_builtin; refine wpList_append_src rfl (.tmp 48) (.tmp 54) 61 rfl w.heap.size 67 i0 _ 3 32 Try.underlying61 hi0 hz0 hz1 hz2 rfl (by decide) _ _ _ rfl HO2.out _ 0 _ [] rfl ?h21 ?h22 ?h23 ?h24 ?h25 ?h26 ?h27 ?_)
    case h21 => rfl
    case h23 => intro ad had; cases had
    case h24 => intro u hu; cases hu
    case h25 => unfold maxLen; omega
    case h26 => omega
    case h27 => exact hs2'
    intro v3 w3 hown3 hg3
    have hown3' : w3.ownsRow w.heap.size 67 3 v3 (lo It.k key [] ++ ⟨key, a, s⟩ :: hi It.k key []).length (flat rc (lo It.k key [] ++ ⟨key, a, s⟩ :: hi It.k key [])) := hown3
    obtain ⟨g3, cap3, hv3⟩ := owns_some hown3
    have hb3 : Below w.heap.size w w3 := HB2.out.grown hg3 hs2' (fun k hk => (HO2.out.lt k hk).1)
    have hc3 : w3.cell? ⟨p, 0, none⟩ = some (.slice none 0 0) := (hb3.cell (p := ⟨p, 0, none⟩) hpl).trans hc'
    have f3 : w3.frozen? ⟨p, 0, none⟩ = false := (hb3.frozen (p := ⟨p, 0, none⟩) hpl).trans (HI.out.hdr.free 0)
    have hfin : Is B (w3.setCell ⟨p, 0, none⟩ v3) p v3 (lo It.k key [] ++ ⟨key, a, s⟩ :: hi It.k key []) ∧ Turns (mine p (.slice none 0 0)) w (w3.setCell ⟨p, 0, none⟩ v3) ∧ ∀ g, v3.ownBlock = some g → w.heap.size ≤ g := by
      refine ⟨⟨?_, HI.out.pB, ?_⟩, Turns.setCell (S := mine p _) (p := ⟨p, 0, none⟩) (Turns.of_below hb3) (fun _ => .inl rfl) _, fun k hk => (hown3'.lt k hk).1⟩
      · have := (HI.out.hdr.below hb3 hpl).set_ 0 v3
        simpa using this
      · have h1 : (w3.setCell ⟨p, 0, none⟩ v3).ownsRow w.heap.size 67 3 v3 _ _ := ownsRow_setCell_below hown3' (a := ⟨p, 0, none⟩) hpl v3
        exact owns_mono h1 HB.out
    have HF := Lib.hid hfin
    clear hfin hown3 hown3' hg3 hb3 hc2
    subst hv3
    go_wp2
    go_ret
    exact ⟨rfl, _, HF.out⟩
  · have hc' : w.cell? ⟨p, 0, none⟩ = some (.slice (some ⟨g, 0, none⟩) l.length cap) := h.hdr.cell 0
    have hcells := fun k m hm => owns_cells_from rc_len h.own rfl k m hm
    have hgl : g < w.heap.size := by obtain ⟨cs, hg⟩ := owns_blk h.own; exact hg.lt
    have hpl := h.hdr.lt
    obtain ⟨n, hn⟩ : ∃ n, n = (lo It.k key l).length := ⟨_, rfl⟩
    obtain ⟨hlo, hhi⟩ := take_lo It.k key l
    rw [← hn] at hlo hhi
    rw [← hn] at HA HH hle
    have hnl : n ≤ l.length := by omega
    have HI := Lib.hid h
    have HLO := Lib.hid (And.intro hlo hhi)
    have HC := Lib.hid hcells
    clear h hcells hlo hhi hn hle
    go_enter Try.func42, Try.ntmps42
    go_wp2_with fail
    refine HA.out.mono ?_
    rintro e w1 ⟨rfl, rfl⟩
    go_wp2_with fail
    refine HH.out.mono ?_
    rintro e w1 ⟨rfl, rfl⟩
    go_wp2_with (at_builtin; refine wpList_append_src rfl (.tmp 32) (.tmp 38) 61 rfl w.heap.size 67 i0 _ 3 32 Try.underlying61 hi0 hz0 hz1 hz2 rfl (by decide) _ 0 [] rfl (World.ownsRow_nil _ _ _ _) _ n _ (flat rc (l.take n)) rfl ?h31 ?h32 ?h33 ?h34 ?h35 ?h36 (Nat.le_refl _) ?_)
    case h31 => rw [flat_length rc_len, List.length_take]; congr 1; omega
    case h32 => intro h; cases h
    case h33 =>
      intro ad had j u hu
      injection had with had
      subst had
      rw [addr_add]
      have := HC.out 0 n (by omega) j u (by simpa using hu)
      simpa using this
    case h34 => exact flat_one rc_one _
    case h35 => unfold maxLen; omega
    case h36 => omega
    intro v1 w1 hown1 hg1
    have hb1 : Below w.heap.size w w1 := (Below.refl _ _).grown hg1 (Nat.le_refl _) (fun k hk => by cases hk)
    have hc1 : w1.cell? ⟨p, 0, none⟩ = some (.slice (some ⟨g, 0, none⟩) l.length cap) := (hb1.cell (p := ⟨p, 0, none⟩) hpl).trans hc'
    have hs1' : w.heap.size ≤ w1.heap.size := hb1.size
    have HO1 := Lib.hid hown1
    have HB1 := Lib.hid hb1
    clear hown1 hg1 hb1
    go_wp2_with (at_builtin; refine wpList_append_src rfl (.tmp 40) (.tmp 45) 61 rfl w.heap.size 67 i0 _ 3 32 Try.underlying61 hi0 hz0 hz1 hz2 rfl (by decide) _ _ _ rfl (HO1.out.alloc _) _ 1 _ (rc ⟨key, a, s⟩) rfl ?h41 ?h42 ?h43 ?h44 ?h45 ?h46 ?h47 ?_)
    case h41 => rfl
    case h42 => intro h; cases h
    case h43 =>
      intro ad had j u hu
      injection had with had
      subst had
      rw [addr_add, Nat.zero_add, World.cell?_alloc_new]
      simpa [rc] using hu
    case h44 => exact rc_one _
    case h45 => unfold maxLen; omega
    case h46 => omega
    case h47 => simp; omega
    intro v2 w2 hown2 hg2
    obtain ⟨g2, cap2, rfl⟩ := owns_some hown2
    have hb2 : Below w.heap.size w w2 := (HB1.out.alloc hs1' _).grown hg2 (by simp; omega) (fun k hk => (HO1.out.lt k hk).1)
    have hc2 : w2.cell? ⟨p, 0, none⟩ = some (.slice (some ⟨g, 0, none⟩) l.length cap) := (hb2.cell (p := ⟨p, 0, none⟩) hpl).trans hc'
    have hs2' : w.heap.size ≤ w2.heap.size := hb2.size
    have HO2 := Lib.hid hown2
    have HB2 := Lib.hid hb2
    clear hown2 hg2 hb2 hc1
    have hsz : (Try.prog.info? 67).map (·.size) = some 3 := by rw [hi0, Option.map_some, hz1]
    have HSZ := Lib.hid hsz
    clear hsz
    go_wp2_with (refine wpList_slice_lo rfl 61 67 (.tmp 52) (.tmp 53) rfl g l.length cap n 3 .i64 rfl rfl Try.underlying61 HSZ.out hnl hcap ?_)
    intro ad hadd
    have HAD := Lib.hid hadd
    clear hadd
    go_wp2_with (at_builtin; refine wpList_append_src rfl (.tmp 48) (.tmp 54) 61 rfl w.heap.size 67 i0 _ 3 32 Try.underlying61 hi0 hz0 hz1 hz2 rfl (by decide) _ _ _ rfl HO2.out _ (l.length - n) _ (flat rc (l.drop n)) rfl ?h51 ?h52 ?h53 ?h54 ?h55 ?h56 ?h57 ?_)
    case h51 => rw [flat_length rc_len, List.length_drop]
    case h52 => intro h; cases h
    case h53 =>
      intro ad had j u hu
      have hj : j < (l.length - n) * 3 := by
        have := (List.getElem?_eq_some_iff.1 hu).1
        rw [flat_length rc_len, List.length_drop] at this
        exact this
      have hcell := HC.out n (l.length - n) (by omega) j u (by rw [List.take_of_length_le (by simp)]; exact hu)
      have hold : ∀ o, w2.cell? ⟨g, o, none⟩ = w.cell? ⟨g, o, none⟩ := fun o => HB2.out.cell (p := ⟨g, o, none⟩) hgl
      injection had with had
      subst had
      rw [HAD.out (by omega), addr_add, hold]
      exact hcell
    case h54 => exact flat_one rc_one _
    case h55 => unfold maxLen; omega
    case h56 => omega
    case h57 => exact hs2'
    intro v3 w3 hown3 hg3
    have hown3' : w3.ownsRow w.heap.size 67 3 v3 (lo It.k key l ++ ⟨key, a, s⟩ :: hi It.k key l).length (flat rc (lo It.k key l ++ ⟨key, a, s⟩ :: hi It.k key l)) := by
      have hh := HLO.out
      have e1 : (lo It.k key l ++ ⟨key, a, s⟩ :: hi It.k key l).length = n + 1 + (l.length - n) := by
        rw [← hh.1, ← hh.2]; simp; omega
      have e2 : flat rc (lo It.k key l ++ ⟨key, a, s⟩ :: hi It.k key l) = flat rc (l.take n) ++ (rc ⟨key, a, s⟩ ++ flat rc (l.drop n)) := by
        rw [hh.1, hh.2, flat_append, flat_cons]
      rw [e1, e2]
      exact hown3
    obtain ⟨g3, cap3, hv3⟩ : ∃ g3 cap3, v3 = .slice (some ⟨g3, 0, none⟩) (n + 1 + (l.length - n)) cap3 := by
      rw [show n + 1 + (l.length - n) = n + (l.length - n) + 1 from by omega] at hown3 ⊢
      exact owns_some hown3
    have hb3 : Below w.heap.size w w3 := HB2.out.grown hg3 hs2' (fun k hk => (HO2.out.lt k hk).1)
    have hc3 : w3.cell? ⟨p, 0, none⟩ = some (.slice (some ⟨g, 0, none⟩) l.length cap) := (hb3.cell (p := ⟨p, 0, none⟩) hpl).trans hc'
    have f3 : w3.frozen? ⟨p, 0, none⟩ = false := (hb3.frozen (p := ⟨p, 0, none⟩) hpl).trans (HI.out.hdr.free 0)
    have hfin : Is B (w3.setCell ⟨p, 0, none⟩ v3) p v3 (lo It.k key l ++ ⟨key, a, s⟩ :: hi It.k key l) ∧ Turns (mine p (.slice (some ⟨g, 0, none⟩) l.length cap)) w (w3.setCell ⟨p, 0, none⟩ v3) ∧ ∀ g, v3.ownBlock = some g → w.heap.size ≤ g := by
      refine ⟨⟨?_, HI.out.pB, ?_⟩, Turns.setCell (S := mine p _) (p := ⟨p, 0, none⟩) (Turns.of_below hb3) (fun _ => .inl rfl) _, fun k hk => (hown3'.lt k hk).1⟩
      · have := (HI.out.hdr.below hb3 hpl).set_ 0 v3
        simpa using this
      · have h1 : (w3.setCell ⟨p, 0, none⟩ v3).ownsRow w.heap.size 67 3 v3 _ _ := ownsRow_setCell_below hown3' (a := ⟨p, 0, none⟩) hpl v3
        exact owns_mono h1 HB.out
    have HF := Lib.hid hfin
    clear hfin hown3 hown3' hg3 hb3 hc2
    subst hv3
    go_wp2
    go_ret
    exact ⟨rfl, _, HF.out⟩

end Rf
end Go.Proofs.Ytphfedkfbehigaa
