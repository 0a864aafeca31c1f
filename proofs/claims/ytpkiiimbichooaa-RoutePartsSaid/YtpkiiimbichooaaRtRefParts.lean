/-
  Walks: the reference's Parts.
-/
import Derived.Test.YtpkiiimbichooaaRtBoth
namespace Go.Proofs.Ytpkiiimbichooaa
open Go.RowKit Sk
namespace Rr
open Rt (Strs RP Sp edges ed em chk hs ri rb str_info edges_length Asc meets mx mn Pt rcP partOf partsTo partsTo_succ partsTo_le rcP_one)

theorem rpart_info : (Try.prog.info? 54).map (fun i => (i.zero, i.size, i.bytes)) = some (some (.agg #[.int .i64 0, .int .i64 0, .string ⟨#[]⟩, .string ⟨#[]⟩]), 4, 48) := by kernel_rfl

/-- parts in a slice of the call's own -/
def OwnR (B : Nat) (w : World) (u : Value) (l : List Pt) : Prop := w.ownsRow B 54 4 u l.length (flat rcP l)

def RPRel (E : List ByteArray) (m : Nat) (n : Int) (F T : ByteArray) (w : World) (cnt : Nat) (s7 s8 : Value) (w1 : World) : Prop :=
  ∃ k v, v = s7 ∧ k + cnt = m ∧ s8 = .int .i64 (k : Nat) ∧ OwnR w.heap.size w1 v (partsTo E n F T k) ∧ Below w.heap.size w w1

theorem RPRel.skip {E : List ByteArray} {m : Nat} {n : Int} {F T : ByteArray} {w wr w1 : World} {k : Nat} {u : Value} (hk : k < m) (hm : meets (ed E k) (ed E (k + 1)) F T = false)
    (hown : OwnR w.heap.size wr u (partsTo E n F T k)) (hbel : Below w.heap.size w wr) (hb : Below wr.heap.size wr w1) :
    RPRel E m n F T w (m - (k + 1)) u (.int .i64 ((k : Int) + 1)) w1 := by
  refine ⟨k + 1, _, rfl, by omega, by simp, ?_, hbel.trans (hb.mono hbel.size)⟩
  rw [partsTo_succ]
  have e : partOf E n F T k = [] := by unfold partOf; rw [hm]; rfl
  rw [e, List.append_nil]
  exact owns_keep hown (S := fun _ => False) (Turns.of_below hb) (fun _ _ h => h)
theorem RPRel.take {E : List ByteArray} {m : Nat} {n : Int} {F T : ByteArray} {w w1 w2 : World} {k : Nat} {u u2 : Value} (hk : k < m) (hm : meets (ed E k) (ed E (k + 1)) F T = true)
    (hown : OwnR w.heap.size w1 u (partsTo E n F T k)) (hbel : Below w.heap.size w w1)
    (hown2 : w2.ownsRow w.heap.size 54 4 u2 ((partsTo E n F T k).length + 1) (flat rcP (partsTo E n F T k) ++ rcP ⟨k, 1 + (k : Int) % n, mx (ed E k) F, mn (ed E (k + 1)) T⟩))
    (hg : w1.grownBy w2 u.ownBlock) :
    RPRel E m n F T w (m - (k + 1)) u2 (.int .i64 ((k : Int) + 1)) w2 := by
  refine ⟨k + 1, _, rfl, by omega, by simp, ?_, hbel.grown hg hbel.size (fun j hj => (hown.lt j hj).1)⟩
  rw [partsTo_succ]
  have e : partOf E n F T k = [⟨k, 1 + (k : Int) % n, mx (ed E k) F, mn (ed E (k + 1)) T⟩] := by unfold partOf; rw [hm]; rfl
  rw [e]
  unfold OwnR
  rw [List.length_append, flat_append]
  simpa [flat] using hown2

section
variable {B p : Nat} {l : List ByteArray} {n : Int} {w : World}
set_option maxHeartbeats 400000 in
theorem RParts_bad (F T : ByteArray) (hc : chk F T ≠ 0) :
    Calls Try.prog 21 #[RP p, Sp F T] w fun e w' => e = .returned (.tuple #[.slice none 0 0, .int .i64 (chk F T)]) ∧ Below w.heap.size w w' := by
  have H2 := Lib.hid (Check_any F T (w.alloc (.cells #[.string F, .string T] 34)))
  have hd : decide (chk F T = 0) = false := by simpa using hc
  have hd2 : (chk F T != 0) = true := by simpa using hc
  generalize chk F T = c at *
  clear hc
  go_enter Try.func21, Try.ntmps21
  go_wp2_with fail
  refine H2.out.mono ?_
  rintro e w' ⟨rfl, hb⟩
  go_wp2
  go_ret2
  exact ⟨rfl, ((Below.refl _ _).alloc (Nat.le_refl _) _).trans (hb.mono (by simp))⟩

set_option maxRecDepth 100000 in
set_option maxHeartbeats 2000000 in
theorem RParts_ok (h : Are B w p l n) (h6 : l.length < 6) (hn : 1 ≤ n) (hn4 : n ≤ 4) (F T : ByteArray) (hc : chk F T = 0) (hE : ∀ i, i < l.length + 1 → chk (ed (edges l) i) (ed (edges l) (i + 1)) = 0) :
    Calls Try.prog 21 #[RP p, Sp F T] w fun e w' => ∃ u, e = .returned (.tuple #[u, .int .i64 0]) ∧ OwnR w.heap.size w' u (partsTo (edges l) n F T (l.length + 1)) ∧ Below w.heap.size w w' := by
  obtain ⟨i0, hi0, hz0, hz1, hz2⟩ := info_parts rpart_info
  have HI := Lib.hid (And.intro hi0 (And.intro hz0 (And.intro hz1 hz2)))
  have h2 := Check_any F T (w.alloc (.cells #[.string F, .string T] 34))
  rw [hc] at h2
  have H2 := Lib.hid h2
  have HAL := Lib.hid (h.below ((Below.refl _ w).alloc (Nat.le_refl _) (.cells #[.string F, .string T] 34)))
  have HE := Lib.hid hE
  have HFT := Lib.hid hc
  have H6 := Lib.hid h6
  obtain ⟨m, hm⟩ : ∃ m, m = l.length + 1 := ⟨_, rfl⟩
  have HM := Lib.hid hm
  have hm6 : m ≤ 6 := by omega
  rw [← hm]
  clear h h2 hc hE h6 hm hi0 hz0 hz1 hz2
  go_enter Try.func21, Try.ntmps21
  go_wp2_with fail
  refine H2.out.mono ?_
  rintro e wc ⟨rfl, hb⟩
  have HAR := Lib.hid (HAL.out.below hb)
  have cF : wc.cell? ⟨w.heap.size, 0, none⟩ = some (.string F) := (hb.cell (p := ⟨w.heap.size, 0, none⟩) (by simp)).trans (by go_simp)
  have cT : wc.cell? ⟨w.heap.size, 1, none⟩ = some (.string T) := (hb.cell (p := ⟨w.heap.size, 1, none⟩) (by simp)).trans (by go_simp)
  have HBW : Hid (Below w.heap.size w wc) := ((Below.refl _ _).alloc (Nat.le_refl _) _).trans (hb.mono (by simp))
  have lbx : w.heap.size < wc.heap.size := by have := hb.size; simp at this; omega
  have HC := Lib.hid (And.intro cF cT)
  clear hb cF cT H2
  go_wp2
  go_loopg [7, 8] m (fun cnt s7 s8 w1 => RPRel (edges l) m n F T wc cnt s7 s8 w1)
  case atStart => exact ⟨0, _, rfl, by omega, rfl, World.ownsRow_nil _ _ _ _, Below.refl _ _⟩
  case round =>
    obtain ⟨k, v7, rfl, hk, rfl, hown, hbel⟩ := hrel
    have HK := Lib.hid hk
    have HO := Lib.hid hown
    have HB := Lib.hid hbel
    have HS := Lib.hid (Shards_any (HAR.out.below hbel) H6.out m HM.out)
    by_cases hlt : k < m
    · have HSP := Lib.hid (Span_in (HAR.out.below hbel) H6.out k (by have := HM.out; omega))
      have HCE := Lib.hid (HE.out k (by have := HM.out; omega))
      have lc := hbel.size
      have hp9 : (partsTo (edges l) n F T k).length ≤ 6 := Nat.le_trans (partsTo_le _ _ _ _ _) (by omega)
      have HNS : Hid (∀ w1, meets (ed (edges l) k) (ed (edges l) (k + 1)) F T = false → Below wr.heap.size wr w1 → RPRel (edges l) m n F T wc (m - (k + 1)) v7 (.int .i64 ((k : Int) + 1)) w1) := fun w1 hm hb => RPRel.skip hlt hm HO.out HB.out hb
      have HNT : Hid (∀ w1 w2 u2, meets (ed (edges l) k) (ed (edges l) (k + 1)) F T = true → OwnR wc.heap.size w1 v7 (partsTo (edges l) n F T k) → Below wc.heap.size wc w1 →
            w2.ownsRow wc.heap.size 54 4 u2 ((partsTo (edges l) n F T k).length + 1) (flat rcP (partsTo (edges l) n F T k) ++ rcP ⟨k, 1 + (k : Int) % n, mx (ed (edges l) k) F, mn (ed (edges l) (k + 1)) T⟩) → w1.grownBy w2 v7.ownBlock →
            RPRel (edges l) m n F T wc (m - (k + 1)) u2 (.int .i64 ((k : Int) + 1)) w2) := fun w1 w2 u2 hm h1 h2 h3 h4 => RPRel.take hlt hm h1 h2 h3 h4
      unfold OwnR at HO HNT
      generalize partsTo (edges l) n F T k = ps at *
      generalize ed (edges l) k = x at *
      generalize ed (edges l) (k + 1) = y at *
      have b1 : (k : Int) < (m : Int) := by omega
      have kI : (k : Int) ≤ 6 := by omega
      clear hk hown hbel
      go_wp2_with fail
      refine HS.out.mono ?_
      rintro e w' ⟨rfl, rfl⟩
      go_wp2_with fail
      refine HSP.out.mono ?_
      rintro e w1 ⟨rfl, hb⟩
      have HB1 := Lib.hid hb
      have f0 : w1.cell? ⟨w.heap.size, 0, none⟩ = some (.string F) := ((HB.out.trans (hb.mono lc)).cell (p := ⟨w.heap.size, 0, none⟩) lbx).trans HC.out.1
      have f1 : w1.cell? ⟨w.heap.size, 1, none⟩ = some (.string T) := ((HB.out.trans (hb.mono lc)).cell (p := ⟨w.heap.size, 1, none⟩) lbx).trans HC.out.2
      have l1 : w.heap.size < w1.heap.size := by have := hb.size; omega
      have l2 : wr.heap.size ≤ w1.heap.size := hb.size
      clear hb
      go_wp2_with fail
      refine (Both_two (w1.heap.size + 1) 1 (w1.heap.size + 2) 1 x y F T _ ⟨by go_simp, by go_simp⟩ ⟨by go_simp, by go_simp⟩ HCE.out HFT.out).mono ?_
      rintro e w2 ⟨v2, rfl, hbo, hb⟩
      have hb2 : Below wr.heap.size wr w2 := HB1.out.trans (((((Below.refl _ w1).alloc (Nat.le_refl _) _).alloc (by simp) _).alloc (by simp; omega) _).trans (hb.mono (by simp; omega)) |>.mono l2)
      have HB2 := Lib.hid hb2
      have l3 : wr.heap.size ≤ w2.heap.size := hb2.size
      have HN := Lib.hid (Node_in (HAR.out.below (HB.out.trans (hb2.mono lc))) H6.out hn hn4 k (by have := HM.out; omega))
      rcases hbo with ⟨rfl, hmt⟩ | ⟨hmt, hown2⟩
      · have HR := Lib.hid (HNS.out w2 hmt hb2)
        clear hb hb2 hmt
        go_wp2_with fail
        refine HN.out.mono ?_
        rintro e w' ⟨rfl, rfl⟩
        go_wp2
        go_roundg (m - (k + 1))
        case measure => have := HK.out; omega
        case rel => exact HR.out
      · obtain ⟨g, cap, rfl⟩ := owns_some hown2
        have d0 : w2.cell? ⟨g, 0, none⟩ = some (.string (mx x F)) := by
          have := hown2.cells (g := g) rfl 0 (.string (mx x F)) rfl
          rw [addr_add] at this
          exact this
        have d1 : w2.cell? ⟨g, 1, none⟩ = some (.string (mn y T)) := by
          have := hown2.cells (g := g) rfl 1 (.string (mn y T)) rfl
          rw [addr_add] at this
          exact this
        have lg : g < w2.heap.size := World.block_lt_of_cell? w2 _ d0
        have hob : w2.ownsRow wc.heap.size 54 4 v7 ps.length (flat rcP ps) := owns_keep HO.out (S := fun _ => False) (Turns.of_below hb2) (fun _ _ h => h)
        have HOB := Lib.hid hob
        have HB5 : Hid (Below wc.heap.size wc w2) := HB.out.trans (hb2.mono lc)
        have lc2 : wc.heap.size ≤ w2.heap.size := HB5.out.size
        have HR := Lib.hid (fun w' u2 => HNT.out (w2.alloc (.cells #[.int .i64 k, .int .i64 (1 + (k : Int) % n), .string (mx x F), .string (mn y T)] 54)) w' u2 hmt (hob.alloc _) (HB5.out.alloc lc2 _))
        generalize mx x F = X at *
        generalize mn y T = Y at *
        clear hb hb2 hmt hown2 hob
        go_wp2_with fail
        refine HN.out.mono ?_
        rintro e w' ⟨rfl, rfl⟩
        go_wp2_with (at_builtin; refine wpList_append_src rfl (.tmp 49) (.tmp 56) 51 rfl wc.heap.size 54 i0 _ 4 48 Try.underlying51 HI.out.1 HI.out.2.1 HI.out.2.2.1 HI.out.2.2.2 rfl (by decide) _ _ _ rfl (HOB.out.alloc _) _ 1 _ (rcP ⟨k, 1 + (k : Int) % n, X, Y⟩) rfl ?h41 ?h42 ?h43 ?h44 ?h45 ?h46 ?h47 ?_)
        case h41 => rfl
        case h42 => intro h; cases h
        case h43 =>
          intro ad had j u hu
          injection had with had
          subst had
          exact Rt.World.cell?_alloc_new_row _ _ _ _ hu
        case h44 => exact rcP_one _
        case h45 => unfold maxLen; omega
        case h46 => omega
        case h47 => simp; omega
        intro v4 w4 hown4 hg4
        have HR2 := Lib.hid (HR.out w4 v4 hown4 hg4)
        clear hown4 hg4
        go_wp2
        go_roundg (m - (k + 1))
        case measure => have := HK.out; omega
        case rel => exact HR2.out
    · have ek : decide ((k : Int) < ((m : Nat) : Int)) = false := by simp; omega
      have hkm : k = m := by omega
      subst hkm
      have HF : Hid (OwnR w.heap.size wr v7 (partsTo (edges l) n F T k) ∧ Below w.heap.size w wr) :=
        ⟨owns_mono HO.out (Nat.le_of_lt lbx), HBW.out.trans (HB.out.mono HBW.out.size)⟩
      clear hown hbel hk hlt
      go_wp2_with fail
      refine HS.out.mono ?_
      rintro e w' ⟨rfl, rfl⟩
      go_wp2
      go_ret2
      exact ⟨_, rfl, HF.out⟩
end

end Rr
end Go.Proofs.Ytpkiiimbichooaa
