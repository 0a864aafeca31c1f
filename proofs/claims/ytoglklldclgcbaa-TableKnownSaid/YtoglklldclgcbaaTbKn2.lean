/-
  Walk: TableKnown, its second part: all dropped again, the chapter's table.
-/
import Derived.Test.YtoglklldclgcbaaTbKnB
namespace Go.Proofs.Ytoglklldclgcbaa
open Go.RowKit Go.Shelf Sk
namespace Tb
attribute [local go_sem] Oper.semAt_some

/-- the chapter's table, in a box, all since Wc -/
structure ChB (Wc : World) (t b : Nat) (r : List Row) (W : World) : Prop where
  ex : ∃ P, At P W t r ∧ ∀ k, P k → Wc.heap.size ≤ k ∧ k < b
  le : Wc.heap.size ≤ b
  box : Boxed W b 23 (TP t)
theorem ChB.below {Wc W W' : World} {t b : Nat} {r : List Row} (h : ChB Wc t b r W) (hb : Below W.heap.size W W') : ChB Wc t b r W' := by
  obtain ⟨P, hP, hk⟩ := h.ex
  exact ⟨⟨P, hP.below hb, hk⟩, h.le, (hb.block b h.box.lt).trans h.box⟩

set_option maxRecDepth 100000 in
set_option maxHeartbeats 4000000 in
theorem kn_2 (c : Code) (Q : Exit → Act → World → Prop) (A : Array Value) (w W : World) (g t : Nat) (h : KnS g t (mostR 128) mostO w W) (hsz : A.size = 225)
    (h1 : A[1]? = some (.slice (some ⟨g, 0, none⟩) 128 128)) (h3 : A[3]? = some (TP t)) (h9 : A[9]? = some (.bool true))
    (hc : ∀ (A' : Array Value) (Wc W' : World) (t2 b bu : Nat), KnS g t [] mostD w Wc → Below Wc.heap.size Wc W' → ChB Wc t2 b chRows W' → b < bu → Boxed W' bu 9 (.string ⟨#[]⟩) →
      A'.size = 225 → A'[3]? = some (TP t) → A'[9]? = some (.bool true) → A'[11]? = some (.int .i64 0) → A'[12]? = some (.int .i64 0) → A'[13]? = some (.pointer (some ⟨b, 0, none⟩)) → A'[14]? = some (.pointer (some ⟨bu, 0, none⟩)) → c.wpIn Fence.wide 5 Try.prog Q ⟨A', []⟩ W') :
    (kput 6 (ktail 10 kb) c).wpIn Fence.wide 5 Try.prog Q ⟨A, []⟩ W := by
  obtain ⟨u, rfl, hu⟩ := lay225 A hsz
  rw [hu 1 _ h1, hu 3 _ h3, hu 9 _ h9]
  have HC := Lib.hid hc
  have H0 := Lib.hid h
  clear hc h h1 h3 h9 hu hsz
  simp only [kb, ktail, kput, Try.f11, Option.getD_some]
  gi_wp2_with fail
  gi_loopg [10] 128 (fun cnt s W1 => FillR (fun i => ⟨U i, ⟨#[]⟩, true⟩) g W cnt s W1)
  case atStart =>
    obtain ⟨cs, hk, hcs⟩ := H0.out.blk
    exact ⟨⟨0, cs, rfl, rfl, hk, hcs, fun i hi => by omega⟩, Turns.refl _ _⟩
  case round =>
    obtain ⟨⟨k, cs, hk, rfl, hblk, hcs, hall⟩, hfr⟩ := hrel
    by_cases hlt : k < 128
    · have b1 : (k : Int) < 128 := by omega
      have b2 : (0 : Int) ≤ (k : Int) := by omega
      have HK := Lib.hid hk
      have HBK := Lib.hid (And.intro hblk (And.intro hcs (And.intro hall hfr)))
      have hblk2 : Blk (wr.alloc (.cells #[.int .u8 (k : Nat)] 5)) g 32 cs := hblk.alloc _
      have x0 := hblk2.cell (k * 3)
      have x1 := hblk2.cell (k * 3 + 1)
      have x2 := hblk2.cell (k * 3 + 2)
      rw [Array.getElem?_eq_getElem (by omega)] at x0 x1 x2
      have y0 := hblk2.free (k * 3)
      have y1 := hblk2.free (k * 3 + 1)
      have y2 := hblk2.free (k * 3 + 2)
      generalize cs[k * 3] = u0 at x0
      generalize cs[k * 3 + 1] = u1 at x1
      generalize cs[k * 3 + 2] = u2 at x2
      clear hblk hblk2 hcs hall hfr hk
      have hstr := str_run wr k
      gi_wp2_with fail
      go_roundg (128 - (k + 1))
      case measure => have := HK.out; omega
      case rel => exact fill_step (f := fun i => ⟨U i, ⟨#[]⟩, true⟩) hlt HBK.out.1 HBK.out.2.1 HBK.out.2.2.1 HBK.out.2.2.2 _
    · obtain rfl : k = 128 := by omega
      obtain rfl : gk = 0 := by omega
      have H1 := Lib.hid (H0.out.fill (f := fun i => ⟨U i, ⟨#[]⟩, true⟩) (s := .int .i64 (128 : Nat)) ⟨⟨128, cs, rfl, rfl, hblk, hcs, hall⟩, hfr⟩ mostD_len (fun k hk => mostD_get hk))
      have hrun := run_nf
      clear hblk hcs hall hfr hk hlt H0
      gi_wp2_with (first
        | (refine ⟨trivial, ?_⟩; gi_at_call 14; refine (callsIn_wide.2 (H1.out.apply (Below.refl _ _) H1.out.ops (fun g' o e _ => .inl (by injection e with e; injection e with e; exact e.symm)) (by rw [mostR_len]; omega))).mono ?_
           rw [dels_chk, dels_app]; rintro e w2 ⟨rfl, h2⟩
           have H2 := Lib.hid h2
           clear H1 h2)
        | (refine ⟨trivial, ?_⟩; gi_at_call 14; refine (callsIn_wide.2 (H2.out.apply (W' := w2.alloc (.cells #[.string ⟨#[103, 111, 110, 101]⟩, .string ⟨#[]⟩, .bool true] 32)) ((Below.refl _ _).alloc (Nat.le_refl _) _) (ops_new w2 32 goneO _ rfl 1 rfl) (fun g' o e _ => .inr (by injection e with e; injection e with e; exact Nat.le_of_eq e)) (by simp))).mono ?_
           rw [gone_chk, gone_app]; rintro e w3 ⟨rfl, h3⟩
           have H3 := Lib.hid h3
           clear H2 h3)
        | (refine ⟨trivial, ?_⟩; gi_at_call 31; refine (callsIn_wide.2 (chapter_any w3)).mono ?_; rintro e w4 ⟨t2, P, rfl, hP, hk, hb⟩
           have H4 := Lib.hid (And.intro hP (And.intro hk hb))
           have hbx : Boxed (w4.alloc (.cells #[TP t2] 23)) w4.heap.size 23 (TP t2) := Boxed.new _ _ _
           have cx := hbx.cell
           clear hP hk hb)
        | (refine ⟨trivial, ?_⟩; gi_at_call 26; refine (callsIn_wide.2 (All_tbx t2 ⟨#[]⟩ ⟨#[]⟩ _)).mono ?_; rintro e w5 ⟨b5, rfl, h5⟩
           have H5 := Lib.hid h5
           have cx5 : w5.cell? ⟨w4.heap.size, 0, none⟩ = some (TP t2) := (h5.bel.cell (p := ⟨w4.heap.size, 0, none⟩) (World.block_lt_of_cell? _ _ cx)).trans cx
           clear h5)
        | (refine ⟨trivial, ?_⟩; gi_at_call 29; refine (callsIn_wide.2 (Back_tbx t2 ⟨#[]⟩ ⟨#[]⟩ _)).mono ?_; rintro e w6 ⟨b6, rfl, h6⟩
           have H6 := Lib.hid h6
           clear h6))
      have hb4 : Below w4.heap.size w4 (w4.alloc (.cells #[TP t2] 23)) := (Below.refl _ _).alloc (Nat.le_refl _) _
      have hb5 := H5.out.bel.trans (H6.out.bel.mono H5.out.bel.size)
      have hb6 := hb5.trans (((Below.refl _ w6).alloc (Nat.le_refl _) (.cells #[.string ⟨#[]⟩] 9)).mono hb5.size)
      have hb34 := H4.out.2.2.trans (hb4.mono H4.out.2.2.size)
      refine HC.out _ w3 _ t2 w4.heap.size w6.heap.size H3.out (hb34.trans (hb6.mono hb34.size)) ⟨⟨P, (H4.out.1.below hb4).below hb6, fun k hk => ⟨H4.out.2.1 k hk, H4.out.1.lt k hk⟩⟩, H4.out.2.2.size, (hb6.block _ hbx.lt).trans hbx⟩ ?_ (Boxed.new _ _ _) rfl rfl rfl rfl rfl rfl rfl
      exact Nat.lt_of_lt_of_le hbx.lt hb5.size

end Tb
end Go.Proofs.Ytoglklldclgcbaa
