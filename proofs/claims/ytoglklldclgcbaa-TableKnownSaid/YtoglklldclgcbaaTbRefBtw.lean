/-
  Walk: the reference's Between.
-/
import Derived.Test.YtoglklldclgcbaaTbRefGet
import Derived.Test.YtoglklldclgcbaaTbFlt
namespace Go.Proofs.Ytoglklldclgcbaa
open Go.RowKit Sk
namespace Tb

def inF (frm tt : ByteArray) (x : Row) : Bool := !kl x.k frm && belowT tt x
theorem flt_take {frm tt : ByteArray} {rows : List Row} {k : Nat} {x : Row} (h : rows[k]? = some x) : flt frm tt (rows.take (k + 1)) = flt frm tt (rows.take k) ++ (if inF frm tt x = true then [x] else []) := by
  obtain ⟨hk, rfl⟩ := List.getElem?_eq_some_iff.1 h
  unfold flt
  rw [List.take_succ_eq_append_getElem hk, List.filter_append]
  congr 1
  by_cases hx : inF frm tt rows[k] = true
  · rw [if_pos hx]; unfold inF at hx; simp only [List.filter_cons, hx, if_true, List.filter_nil]
  · rw [if_neg hx]
    have : (!kl rows[k].k frm && belowT tt rows[k]) = false := by simpa [inF] using hx
    simp only [List.filter_cons, this, Bool.false_eq_true, if_false, List.filter_nil]
def BtwR (frm tt : ByteArray) (rows : List Row) (w : World) (cnt : Nat) (s7 s8 : Value) (w1 : World) : Prop :=
  ∃ k v, v = s7 ∧ k + cnt = rows.length ∧ s8 = .int .i64 (k : Nat) ∧ w1.ownsRow w.heap.size 39 2 v (flt frm tt (rows.take k)).length (flat rcR (flt frm tt (rows.take k))) ∧ Below w.heap.size w w1

set_option maxRecDepth 100000 in
set_option maxHeartbeats 1000000 in
theorem Between_ref (R : Nat → Prop) (p : Nat) (v : Value) (rows : List Row) (frm tt : ByteArray) (w : World) (h : RefIs R w p v rows) (hlen : rows.length ≤ 1000000) :
    Calls Try.prog 23 #[TP p, .string frm, .string tt] w fun e w' => ∃ u, e = .returned u ∧ w'.ownsRow w.heap.size 39 2 u (flt frm tt rows).length (flat rcR (flt frm tt rows)) ∧ Below w.heap.size w w' := by
  obtain ⟨i0, hi0, hz0, hz1, hz2⟩ := info_parts row_info
  have HI := Lib.hid (And.intro hi0 (And.intro hz0 (And.intro hz1 hz2)))
  obtain ⟨A, c, rfl, hcs⟩ := Rws.of_owns h.own
  have c0 : w.cell? ⟨p, 0, none⟩ = some (.slice A rows.length c) := h.hdr.cell 0
  have HC := Lib.hid hcs
  obtain ⟨n, hn⟩ : ∃ n, n = rows.length := ⟨_, rfl⟩
  have HN := Lib.hid hn
  rw [← hn] at hlen c0
  have HC0 := Lib.hid c0
  clear h hcs hn hi0 hz0 hz1 hz2
  go_enter Try.func23, Try.ntmps23
  go_wp2
  go_loopg [7, 8] n (fun cnt s7 s8 w1 => BtwR frm tt rows w cnt s7 s8 w1)
  case atStart => exact ⟨0, _, rfl, by have := HN.out; omega, rfl, World.ownsRow_nil _ _ _ _, Below.refl _ _⟩
  case round =>
    obtain ⟨k, v7, rfl, hk, rfl, hown, hbel⟩ := hrel
    rw [← HN.out] at hk
    have HK := Lib.hid hk
    have HO := Lib.hid (And.intro hown hbel)
    have c1 : wr.cell? ⟨p, 0, none⟩ = some (.slice A n c) := (hbel.cell (p := ⟨p, 0, none⟩) (World.block_lt_of_cell? w _ HC0.out)).trans HC0.out
    by_cases hlt : k < n
    · obtain ⟨x, hx⟩ : ∃ x, rows[k]? = some x := ⟨_, List.getElem?_eq_getElem (show k < rows.length by rw [← HN.out]; exact hlt)⟩
      obtain ⟨g, o, rfl, y0, y1⟩ := HC.out k x hx
      have x0 := (hbel.cell (p := ⟨g, o + k * 2, none⟩) (World.block_lt_of_cell? w _ y0)).trans y0
      have x1 := (hbel.cell (p := ⟨g, o + k * 2 + 1, none⟩) (World.block_lt_of_cell? w _ y1)).trans y1
      have b1 : (k : Int) < (n : Int) := by omega
      have b2 : (0 : Int) ≤ (k : Int) := by omega
      have b3 : (n : Int) ≤ 1000000 := by omega
      have htk := flt_take (frm := frm) (tt := tt) hx
      have HNO : Hid (inF frm tt x = false → BtwR frm tt rows w (n - (k + 1)) v7 (.int .i64 ((k : Int) + 1)) wr) := fun hf => by
        rw [hf] at htk
        refine ⟨k + 1, v7, rfl, by rw [← HN.out]; omega, by simp, ?_, HO.out.2⟩
        rw [htk]
        simpa using HO.out.1
      have HYES : Hid (inF frm tt x = true → ∀ o u4 w4, w4.ownsRow w.heap.size 39 2 u4 ((flt frm tt (rows.take k)).length + 1) (flat rcR (flt frm tt (rows.take k)) ++ rcR x) → (wr.alloc o).grownBy w4 v7.ownBlock → BtwR frm tt rows w (n - (k + 1)) u4 (.int .i64 ((k : Int) + 1)) w4) := fun hf o u4 w4 h4 hg => by
        rw [hf, if_pos rfl] at htk
        refine ⟨k + 1, u4, rfl, by rw [← HN.out]; omega, by simp, ?_, (HO.out.2.alloc HO.out.2.size o).grown hg (Nat.le_trans HO.out.2.size (by simp)) (fun j hj => (HO.out.1.lt j hj).1)⟩
        rw [htk, List.length_append, flat_append]
        simpa [flat] using h4
      have HIN := Lib.hid (show inF frm tt x = (!kl x.k frm && (tt.toList.isEmpty || kl x.k tt)) from rfl)
      have HFL : Hid ((flt frm tt (rows.take k)).length ≤ 1000000) := by
        refine Nat.le_trans (List.length_filter_le _ _) ?_
        rw [List.length_take]
        omega
      generalize flt frm tt (rows.take k) = fs at *
      clear hk hown hbel hx htk y0 y1
      cases e1 : kl x.k frm with
      | true =>
        have HF := Lib.hid (HNO.out (by rw [HIN.out, e1]; rfl))
        have t1 : Op.bytesLess x.k.toList frm.toList = true := e1
        go_wp2
        go_roundg (n - (k + 1))
        case measure => have := HK.out; omega
        case rel => exact HF.out
      | false =>
        have t1 : Op.bytesLess x.k.toList frm.toList = false := e1
        cases e2 : tt.toList.isEmpty with
        | true =>
          go_wp2_with (at_builtin; refine wpList_append_src rfl (.tmp 44) (.tmp 52) 33 rfl w.heap.size 39 i0 _ 2 32 Try.underlying33 HI.out.1 HI.out.2.1 HI.out.2.2.1 HI.out.2.2.2 rfl (by decide) _ _ _ rfl (HO.out.1.alloc _) _ 1 _ (rcR x) rfl ?h1 ?h2 ?h3 ?h4 ?h5 ?h6 ?h7 ?_)
          case h1 => rfl
          case h2 => intro h; cases h
          case h3 =>
            intro ad had j u hu
            injection had with had
            subst had
            rw [addr_add, Nat.zero_add, World.cell?_alloc_new]
            simpa [rcR] using hu
          case h4 => exact rcR_one x
          case h5 => have := HFL.out; unfold maxLen; omega
          case h6 => have := HFL.out; omega
          case h7 => have := HO.out.2.size; simp; omega
          intro u4 w4 hown4 hg4
          have HR := Lib.hid (HYES.out (by rw [HIN.out, e1, e2]; rfl) _ u4 w4 hown4 hg4)
          clear hown4 hg4
          go_wp2
          go_roundg (n - (k + 1))
          case measure => have := HK.out; omega
          case rel => exact HR.out
        | false =>
          cases e3 : kl x.k tt with
          | true =>
            have t2 : Op.bytesLess x.k.toList tt.toList = true := e3
            go_wp2_with (at_builtin; refine wpList_append_src rfl (.tmp 44) (.tmp 52) 33 rfl w.heap.size 39 i0 _ 2 32 Try.underlying33 HI.out.1 HI.out.2.1 HI.out.2.2.1 HI.out.2.2.2 rfl (by decide) _ _ _ rfl (HO.out.1.alloc _) _ 1 _ (rcR x) rfl ?h1 ?h2 ?h3 ?h4 ?h5 ?h6 ?h7 ?_)
            case h1 => rfl
            case h2 => intro h; cases h
            case h3 =>
              intro ad had j u hu
              injection had with had
              subst had
              rw [addr_add, Nat.zero_add, World.cell?_alloc_new]
              simpa [rcR] using hu
            case h4 => exact rcR_one x
            case h5 => have := HFL.out; unfold maxLen; omega
            case h6 => have := HFL.out; omega
            case h7 => have := HO.out.2.size; simp; omega
            intro u4 w4 hown4 hg4
            have HR := Lib.hid (HYES.out (by rw [HIN.out, e1, e2, e3]; rfl) _ u4 w4 hown4 hg4)
            clear hown4 hg4
            go_wp2
            go_roundg (n - (k + 1))
            case measure => have := HK.out; omega
            case rel => exact HR.out
          | false =>
            have t2 : Op.bytesLess x.k.toList tt.toList = false := e3
            have HF := Lib.hid (HNO.out (by rw [HIN.out, e1, e2, e3]; rfl))
            go_wp2
            go_roundg (n - (k + 1))
            case measure => have := HK.out; omega
            case rel => exact HF.out
    · have ek : decide ((k : Int) < (n : Int)) = false := by simp; omega
      have ek2 : decide (k < n) = false := by simp; omega
      have e : rows.take k = rows := List.take_of_length_le (by rw [← HN.out]; omega)
      rw [e] at HO
      clear hk hown hbel
      go_wp2
      go_ret
      exact ⟨_, rfl, HO.out⟩

end Tb
end Go.Proofs.Ytoglklldclgcbaa
