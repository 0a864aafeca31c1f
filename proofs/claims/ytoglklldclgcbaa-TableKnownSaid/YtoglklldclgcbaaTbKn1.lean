/-
  Walk: TableKnown, its first part: both ends of a batch.
-/
import Derived.Test.YtoglklldclgcbaaTbKnB
namespace Go.Proofs.Ytoglklldclgcbaa
open Go.RowKit Go.Shelf Sk
namespace Tb
attribute [local go_sem] Oper.semAt_some

set_option maxRecDepth 100000 in
set_option maxHeartbeats 4000000 in
theorem kn_1 (c : Code) (Q : Exit → Act → World → Prop) (A : Array Value) (w : World) (hsz : A.size = 225)
    (hc : ∀ (A' : Array Value) (W : World) (t : Nat), KnS w.heap.size t (mostR 128) mostO w W → A'.size = 225 → A'[1]? = some (.slice (some ⟨w.heap.size, 0, none⟩) 128 128) → A'[3]? = some (TP t) → A'[9]? = some (.bool true) → c.wpIn Fence.wide 5 Try.prog Q ⟨A', []⟩ W) :
    (kput 10 kb c).wpIn Fence.wide 5 Try.prog Q ⟨A, []⟩ w := by
  obtain ⟨u, rfl, -⟩ := lay225 A hsz
  have HC := Lib.hid hc
  clear hc hsz
  simp only [kb, kput, Try.f11, Option.getD_some]
  have hmk : ∀ W, (Instr.makeSlice 27 (.int .i64 128) (.int .i64 128)).run Try.prog W = .ok (.slice (some ⟨W.heap.size, 0, none⟩) 128 128) (W.alloc (.cells (mkO 128) 32)) := mk_run 128 (by omega)
  gi_wp2_with fail
  obtain ⟨g, hg⟩ : ∃ g, w.heap.size = g := ⟨_, rfl⟩
  obtain ⟨w1, hw1⟩ : ∃ W, w.alloc (.cells (mkO 128) 32) = W := ⟨_, rfl⟩
  rw [hg, hw1]
  have HB1 : Hid (Blk w1 g 32 (mkO 128) ∧ Below w.heap.size w w1 ∧ w1.heap.size = g + 1) := by
    subst hw1 hg
    exact ⟨Blk.new _ _ _, (Below.refl _ w).alloc (Nat.le_refl _) _, by simp⟩
  clear hmk hw1
  gi_loopg [2] 128 (fun cnt s W => FillR (fun i => ⟨U i, T1 118, false⟩) g w1 cnt s W)
  case atStart => exact ⟨⟨0, mkO 128, rfl, rfl, HB1.out.1, by rw [mkO_size], fun i hi => by omega⟩, Turns.refl _ _⟩
  case round =>
    obtain ⟨⟨k, cs, hk, rfl, hblk, hcs, hall⟩, hfr⟩ := hrel
    by_cases hlt : k < 128
    · have b1 : (k : Int) < 128 := by omega
      have b2 : (0 : Int) ≤ (k : Int) := by omega
      have HK := Lib.hid hk
      have HBK := Lib.hid (And.intro hblk (And.intro hcs (And.intro hall hfr)))
      have hblk2 : Blk (wr.alloc (.cells #[.int .u8 (k : Nat)] 5)) g 32 cs := hblk.alloc _
      have x0 := hblk2.cell (k * 3)
      have x1 := hblk2.cell (k * 3 + 1)
      have x2 := hblk2.cell (k * 3 + 2)
      rw [Array.getElem?_eq_getElem (by omega)] at x0 x1 x2
      have y0 := hblk2.free (k * 3)
      have y1 := hblk2.free (k * 3 + 1)
      have y2 := hblk2.free (k * 3 + 2)
      generalize cs[k * 3] = u0 at x0
      generalize cs[k * 3 + 1] = u1 at x1
      generalize cs[k * 3 + 2] = u2 at x2
      clear hblk hblk2 hcs hall hfr hk
      have hstr := str_run wr k
      gi_wp2_with fail
      go_roundg (128 - (k + 1))
      case measure => have := HK.out; omega
      case rel => exact fill_step (f := fun i => ⟨U i, T1 118, false⟩) hlt HBK.out.1 HBK.out.2.1 HBK.out.2.2.1 HBK.out.2.2.2 _
    · obtain rfl : k = 128 := by omega
      obtain rfl : gk = 0 := by omega
      have HF : Hid (FillR (fun i => ⟨U i, T1 118, false⟩) g w1 0 (.int .i64 (128 : Nat)) wr) := ⟨⟨128, cs, rfl, rfl, hblk, hcs, hall⟩, hfr⟩
      have HG : Hid (g < wr.heap.size) := hblk.lt
      clear hblk hcs hall hfr hk hlt
      gi_wp2_with (first
        | (refine ⟨trivial, ?_⟩; gi_at_call 12; refine (callsIn_wide.2 (New_at (-1) wr)).mono ?_; rintro e w2 ⟨t, rfl, ht, hb⟩
           have H0 := Lib.hid (KnS.new HF.out (hg ▸ HB1.out.2.1) (by rw [HB1.out.2.2]; omega) mostO_len (fun k hk => mostO_get hk) ht hb)
           clear ht hb HF HG HB1)
        | (refine ⟨trivial, ?_⟩; gi_at_call 14; refine (callsIn_wide.2 (H0.out.apply (Below.refl _ _) H0.out.ops (fun g' o e _ => .inl (by injection e with e; injection e with e; exact e.symm)) (by simp))).mono ?_
           rw [most_chk, most_app]; rintro e w3 ⟨rfl, h3⟩
           have H1 := Lib.hid h3
           clear H0 h3))
      -- one too many
      have hb3 : Below w3.heap.size w3 (w3.alloc (.cells #[.string (T1 120), .string ⟨#[]⟩, .bool false] 32)) := (Below.refl _ _).alloc (Nat.le_refl _) _
      obtain ⟨A1, c1, w4, hr4, ho4, hg4, hb4⟩ := app_one (H1.out.ops.below hb3) (by omega) (by omega) ⟨T1 120, ⟨#[]⟩, false⟩ w3.heap.size (new_cells w3 ⟨T1 120, ⟨#[]⟩, false⟩ 32)
      have H4 := Lib.hid (And.intro ho4 (And.intro (fun g' o e => Nat.le_trans hb3.size (hg4 g' o e)) (hb3.trans (hb4.mono hb3.size))))
      have HR4 := Lib.hid hr4
      clear hb3 ho4 hg4 hb4 hr4
      refine append_op _ _ 27 rfl rfl rfl HR4.out ?_
      clear HR4
      gi_wp2_with (first
        | (refine ⟨trivial, ?_⟩; gi_at_call 14; refine (callsIn_wide.2 (H1.out.apply H4.out.2.2 H4.out.1 (fun g' o e _ => .inr (H4.out.2.1 g' o e)) (by rw [mostR_len]; omega))).mono ?_
           rw [over_chk, app_not over_chk (by decide)]; rintro e w5 ⟨rfl, h5⟩
           have H5 := Lib.hid h5
           clear H1 H4 h5)
        | (refine ⟨trivial, ?_⟩; gi_at_call 14; refine (callsIn_wide.2 (H5.out.apply (W' := w5.alloc (.cells #[.string (T1 0), .string (T1 118), .bool true] 32)) ((Below.refl _ _).alloc (Nat.le_refl _) _) (ops_new w5 32 [⟨T1 0, T1 118, true⟩] _ rfl 1 rfl) (fun g' o e _ => .inr (by injection e with e; injection e with e; exact Nat.le_of_eq e)) (by rw [mostR_len]; omega))).mono ?_
           rw [zero_chk, app_not zero_chk (by decide)]; rintro e w6 ⟨rfl, h6⟩
           have H6 := Lib.hid h6
           clear H5 h6))
      obtain ⟨A7, c7, w7, hr7, ho7, hb7⟩ := app_nil (H6.out.ops.cut 127 (by omega)) (by omega)
      have H7 := Lib.hid (And.intro ho7 hb7)
      have HR7 := Lib.hid hr7
      clear ho7 hb7 hr7
      refine append_op _ _ 27 rfl rfl rfl HR7.out ?_
      clear HR7
      gi_wp2_with fail
      have hb7 : Below w7.heap.size w7 (w7.alloc (.cells #[.string ⟨#[]⟩, .string ⟨#[]⟩, .bool false] 32)) := (Below.refl _ _).alloc (Nat.le_refl _) _
      obtain ⟨A8, c8, w8, hr8, ho8, hg8, hb8⟩ := app_own (owns_keep H7.out.1 (Turns.of_below (S := fun _ => False) hb7) (fun _ _ h => h)) (by rw [List.length_take, mostO_len]; rfl) (Nat.le_trans H7.out.2.size hb7.size) (by omega) ⟨⟨#[]⟩, ⟨#[]⟩, false⟩ w7.heap.size (new_cells w7 ⟨⟨#[]⟩, ⟨#[]⟩, false⟩ 32)
      have H8 := Lib.hid (And.intro ho8 (And.intro hg8 ((H7.out.2.trans (hb7.mono H7.out.2.size)).trans hb8)))
      have HR8 := Lib.hid hr8
      clear hb7 ho8 hg8 hb8 hr8 H7
      refine append_op _ _ 27 rfl rfl rfl HR8.out ?_
      clear HR8
      have HLN : Hid (∀ W, KnS g t (mostR 128) mostO w W → Calls Try.prog 16 #[TP t] W fun e w' => e = .returned (.int .i64 128) ∧ W = w') := fun W h => by
        obtain ⟨P, hP, _⟩ := h.tab
        have := Len_tb hP.tab
        rw [mostR_len] at this
        exact this
      gi_wp2_with (first
        | (refine ⟨trivial, ?_⟩; gi_at_call 14; refine (callsIn_wide.2 (H6.out.apply H8.out.2.2 H8.out.1 (fun g' o e _ => .inr (H8.out.2.1 g' o e)) (by rw [mostR_len]; omega))).mono ?_
           rw [last_chk, app_not last_chk (by decide)]; rintro e w9 ⟨rfl, h9⟩
           have H9 := Lib.hid h9
           clear H6 H8 h9)
        | (refine ⟨trivial, ?_⟩; gi_at_call 14; refine (callsIn_wide.2 (H9.out.apply (Below.refl _ _) (A := none) (len := 0) (cap := 0) (l' := []) ⟨rfl, Nat.le_refl _, fun _ => rfl, fun k x hx => by cases hx⟩ (fun g' o e => by cases e) (by rw [mostR_len]; omega))).mono ?_
           rw [nil_chk, nil_app]; rintro e w10 ⟨rfl, h10⟩
           have H10 := Lib.hid h10
           clear H9 h10)
        | (refine ⟨trivial, ?_⟩; gi_at_call 16; refine (callsIn_wide.2 (HLN.out w10 H10.out)).mono ?_; rintro e w11 ⟨rfl, rfl⟩))
      exact HC.out _ w10 t (by rw [hg]; exact H10.out) rfl (by rw [hg]; rfl) rfl rfl

end Tb
end Go.Proofs.Ytoglklldclgcbaa
