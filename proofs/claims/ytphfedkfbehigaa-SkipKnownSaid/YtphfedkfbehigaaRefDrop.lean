/-
  Walks: the reference's list (scriptoriumref09): 'Drop'.
-/
import Derived.Test.YtphfedkfbehigaaRefPut
namespace Go.Proofs.Ytphfedkfbehigaa
open Go.RowKit Sk
namespace Rf

set_option maxHeartbeats 400000 in
theorem Drop_none (B p : Nat) (v : Value) (l : List It) (key : ByteArray) (w : World) (h : Is B w p v l) (hlen : l.length ≤ 1000000) (hs : seek It.k key l = none) :
    Calls Try.prog 41 #[.pointer (some ⟨p, 0, none⟩), .string key] w fun e w' => e = .returned (.bool false) ∧ w = w' := by
  have HA := Lib.hid (at_any B p _ l key w h hlen)
  have hhas := has_at B p _ l key w h hlen
  rw [hs] at hhas
  have HH := Lib.hid hhas
  generalize (lo It.k key l).length = n at *
  clear h hs hhas
  go_enter Try.func41, Try.ntmps41
  go_wp2_with fail
  refine HA.out.mono ?_
  rintro e w1 ⟨rfl, rfl⟩
  go_wp2_with fail
  refine HH.out.mono ?_
  rintro e w1 ⟨rfl, rfl⟩
  go_wp2
  go_ret
  exact ⟨rfl, rfl⟩

set_option maxHeartbeats 1000000 in
theorem Drop_some (B p : Nat) (v : Value) (l r : List It) (x : It) (key : ByteArray) (w : World) (h : Is B w p v l) (hlen : l.length ≤ 1000000) (hx : seek It.k key l = some x) (hr : hi It.k key l = x :: r) :
    Calls Try.prog 41 #[.pointer (some ⟨p, 0, none⟩), .string key] w fun e w' => e = .returned (.bool true) ∧
      ∃ v', Is B w' p v' (lo It.k key l ++ r) ∧ Turns (mine p v) w w' ∧ ∀ g, v'.ownBlock = some g → w.heap.size ≤ g := by
  obtain ⟨i0, hi0, hz0, hz1, hz2⟩ := info_parts it_info
  have hle := lo_le It.k key l
  rw [hr] at hle
  have HB := Lib.hid (show B ≤ w.heap.size from Nat.le_trans h.pB (Nat.le_of_lt h.hdr.lt))
  have HA := Lib.hid (at_any B p _ l key w h hlen)
  have hhas := has_at B p _ l key w h hlen
  rw [hx] at hhas
  have HH := Lib.hid hhas
  clear hhas hx
  rcases h.form with ⟨rfl, rfl⟩ | ⟨g, cap, rfl, hgB, hcap⟩
  · simp at hle
  · have hc' : w.cell? ⟨p, 0, none⟩ = some (.slice (some ⟨g, 0, none⟩) l.length cap) := h.hdr.cell 0
    have hcells := fun k m hm => owns_cells_from rc_len h.own rfl k m hm
    have hgl : g < w.heap.size := by obtain ⟨cs, hg⟩ := owns_blk h.own; exact hg.lt
    have hpl := h.hdr.lt
    obtain ⟨n, hn⟩ : ∃ n, n = (lo It.k key l).length := ⟨_, rfl⟩
    obtain ⟨hlo, hhi⟩ := take_lo It.k key l
    rw [hr] at hhi
    rw [← hn] at hlo hhi
    have hhi' : l.drop (n + 1) = r := by
      have : l.drop (n + 1) = (l.drop n).drop 1 := by rw [List.drop_drop]
      rw [this, hhi]; rfl
    rw [← hn] at HA HH hle
    have hnl : n + 1 ≤ l.length := by simp at hle; omega
    have HI := Lib.hid h
    have HLO := Lib.hid (And.intro hlo hhi')
    have HC := Lib.hid hcells
    have HSZ : Hid ((Try.prog.info? 67).map (·.size) = some 3) := by show _ = _; rw [hi0, Option.map_some, hz1]
    clear h hcells hlo hhi hn hle hhi' hr
    go_enter Try.func41, Try.ntmps41
    go_wp2_with fail
    refine HA.out.mono ?_
    rintro e w1 ⟨rfl, rfl⟩
    go_wp2_with fail
    refine HH.out.mono ?_
    rintro e w1 ⟨rfl, rfl⟩
    go_wp2_with (at_builtin; refine wpList_append_src rfl (.tmp 15) (.tmp 21) 61 rfl w.heap.size 67 i0 _ 3 32 Try.underlying61 hi0 hz0 hz1 hz2 rfl (by decide) _ 0 [] rfl (World.ownsRow_nil _ _ _ _) _ n _ (flat rc (l.take n)) rfl ?h11 ?h12 ?h13 ?h14 ?h15 ?h16 (Nat.le_refl _) ?_)
    case h11 => rw [flat_length rc_len, List.length_take]; congr 1; omega
    case h12 => intro h; cases h
    case h13 =>
      intro ad had j u hu
      injection had with had
      subst had
      rw [addr_add]
      have := HC.out 0 n (by omega) j u (by simpa using hu)
      simpa using this
    case h14 => exact flat_one rc_one _
    case h15 => unfold maxLen; omega
    case h16 => omega
    intro v1 w1 hown1 hg1
    have hb1 : Below w.heap.size w w1 := (Below.refl _ _).grown hg1 (Nat.le_refl _) (fun k hk => by cases hk)
    have hc1 : w1.cell? ⟨p, 0, none⟩ = some (.slice (some ⟨g, 0, none⟩) l.length cap) := (hb1.cell (p := ⟨p, 0, none⟩) hpl).trans hc'
    have hs1' : w.heap.size ≤ w1.heap.size := hb1.size
    have HO1 := Lib.hid hown1
    have HB1 := Lib.hid hb1
    clear hown1 hg1 hb1
    have ecast : ((n : Int) + 1) = ((n + 1 : Nat) : Int) := by omega
    have HE := Lib.hid ecast
    clear ecast
    go_wp2_with (refine wpList_slice_lo rfl 61 67 (.tmp 28) (.tmp 30) rfl g l.length cap (n + 1) 3 .i64 rfl (congrArg (Value.int .i64) HE.out) Try.underlying61 HSZ.out hnl hcap ?_)
    intro ad hadd
    have HAD := Lib.hid hadd
    clear hadd
    go_wp2_with (at_builtin; refine wpList_append_src rfl (.tmp 24) (.tmp 31) 61 rfl w.heap.size 67 i0 _ 3 32 Try.underlying61 hi0 hz0 hz1 hz2 rfl (by decide) _ _ _ rfl HO1.out _ (l.length - (n + 1)) _ (flat rc (l.drop (n + 1))) rfl ?h51 ?h52 ?h53 ?h54 ?h55 ?h56 ?h57 ?_)
    case h51 => rw [flat_length rc_len, List.length_drop]
    case h52 => intro h; cases h
    case h53 =>
      intro ad had j u hu
      have hj : j < (l.length - (n + 1)) * 3 := by
        have := (List.getElem?_eq_some_iff.1 hu).1
        rw [flat_length rc_len, List.length_drop] at this
        exact this
      have hcell := HC.out (n + 1) (l.length - (n + 1)) (by omega) j u (by rw [List.take_of_length_le (by simp)]; exact hu)
      have hold : ∀ o, w1.cell? ⟨g, o, none⟩ = w.cell? ⟨g, o, none⟩ := fun o => HB1.out.cell (p := ⟨g, o, none⟩) hgl
      injection had with had
      subst had
      rw [HAD.out (by omega), addr_add, hold]
      exact hcell
    case h54 => exact flat_one rc_one _
    case h55 => unfold maxLen; omega
    case h56 => omega
    case h57 => exact hs1'
    intro v3 w3 hown3 hg3
    have hown3' : w3.ownsRow w.heap.size 67 3 v3 (lo It.k key l ++ r).length (flat rc (lo It.k key l ++ r)) := by
      have hh := HLO.out
      have e1 : (lo It.k key l ++ r).length = n + (l.length - (n + 1)) := by
        rw [← hh.1, ← hh.2]; simp; omega
      have e2 : flat rc (lo It.k key l ++ r) = flat rc (l.take n) ++ flat rc (l.drop (n + 1)) := by
        rw [hh.1, hh.2, flat_append]
      rw [e1, e2]
      exact hown3
    have hb3 : Below w.heap.size w w3 := HB1.out.grown hg3 hs1' (fun k hk => (HO1.out.lt k hk).1)
    have hc3 : w3.cell? ⟨p, 0, none⟩ = some (.slice (some ⟨g, 0, none⟩) l.length cap) := (hb3.cell (p := ⟨p, 0, none⟩) hpl).trans hc'
    have f3 : w3.frozen? ⟨p, 0, none⟩ = false := (hb3.frozen (p := ⟨p, 0, none⟩) hpl).trans (HI.out.hdr.free 0)
    have hfin : Is B (w3.setCell ⟨p, 0, none⟩ v3) p v3 (lo It.k key l ++ r) ∧ Turns (mine p (.slice (some ⟨g, 0, none⟩) l.length cap)) w (w3.setCell ⟨p, 0, none⟩ v3) ∧ ∀ g, v3.ownBlock = some g → w.heap.size ≤ g := by
      refine ⟨⟨?_, HI.out.pB, ?_⟩, Turns.setCell (S := mine p _) (p := ⟨p, 0, none⟩) (Turns.of_below hb3) (fun _ => .inl rfl) _, fun k hk => (hown3'.lt k hk).1⟩
      · have := (HI.out.hdr.below hb3 hpl).set_ 0 v3
        simpa using this
      · have h1 : (w3.setCell ⟨p, 0, none⟩ v3).ownsRow w.heap.size 67 3 v3 _ _ := ownsRow_setCell_below hown3' (a := ⟨p, 0, none⟩) hpl v3
        exact owns_mono h1 HB.out
    have HF := Lib.hid hfin
    have hform := owns_form hown3
    clear hfin hown3 hown3' hg3 hb3 hc1
    rcases hform with ⟨hv3, _, _⟩ | ⟨g3, cap3, hv3, _, _⟩
    · subst hv3
      go_wp2
      go_ret
      exact ⟨rfl, _, HF.out⟩
    · subst hv3
      go_wp2
      go_ret
      exact ⟨rfl, _, HF.out⟩

end Rf
end Go.Proofs.Ytphfedkfbehigaa
