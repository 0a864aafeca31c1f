/-
  The iterator of a table: All's closure, whatever the rounds do to the table in between.
-/
import Derived.Test.YtoglklldclgcbaaTbNew
import Derived.Test.YtoglklldclgcbaaTbPlain
import Derived.RangeFuncNested
import Derived.RangeFuncBound
import Derived.RangeFuncCalls
import Derived.RangeFuncLeaves
import Derived.Shelf.Abstract
import Derived.Shelf.RegionOpen
import Derived.WalkKit
import Derived.OwnWalkIn
import Derived.TacticsInMore
import Derived.LoopNIn
import Derived.LoopIn
import Derived.Sort.LoopGhostIn
namespace Go.Proofs.Ytoglklldclgcbaa
open Go.RowKit Go.Shelf Sk
namespace Tb
attribute [local go_sem] Oper.semAt_some

def encs (x : Row) : Array Value := #[.string x.k, .string x.v]
/-- where the next key is looked for, when these rows have come -/
def atA (frm : ByteArray) (pre : List Row) : ByteArray := match pre.getLast? with
  | some x => next x.k
  | none => frm
theorem atA_snoc (frm : ByteArray) (pre : List Row) (x : Row) : atA frm (pre ++ [x]) = next x.k := by simp [atA]
/-- the next row, if there is one in the range -/
def nextA (frm tt : ByteArray) (rows pre : List Row) : Option Row := match hi Row.k (atA frm pre) rows with
  | z :: _ => if belowT tt z = true then some z else none
  | [] => none
theorem grown_of {w w' : World} (h : Below w.heap.size w w') : w.grownBy w' none := ⟨h.os, h.tape, h.output, h.size, fun k hk _ => h.block k hk⟩

set_option maxRecDepth 100000 in
set_option maxHeartbeats 4000000 in
theorem All1_in (n : Nat) (hn : 1 ≤ n) (l bt bf bo t : Nat) (frm tt : ByteArray) (N : Nat) (rowsOf : List Row → List Row) (J Jx : List Row → World → Prop)
    (hab : ∀ pre A B, J pre A → A.grownBy B none → J pre B)
    (hT : ∀ pre W, J pre W → (∃ P, Tab P W t (rowsOf pre)) ∧ W.cell? ⟨bt, 0, none⟩ = some (TP t) ∧ W.cell? ⟨bf, 0, none⟩ = some (.string frm) ∧ W.cell? ⟨bo, 0, none⟩ = some (.string tt))
    (hK : ∀ pre W, J pre W → ∀ x ∈ rowsOf pre, x.k.size ≤ reachBytes)
    (hN : ∀ pre x W, J pre W → nextA frm tt (rowsOf pre) pre = some x → pre.length < N)
    (hY : ∀ pre x W, J pre W → nextA frm tt (rowsOf pre) pre = some x → YieldAt Fence.wide (n - 1) Try.prog l (encs x) W fun e W' =>
      (e = .returned (.bool true) ∧ J (pre ++ [x]) W') ∨ (e = .returned (.bool false) ∧ Jx (pre ++ [x]) W'))
    (W : World) (h0 : J [] W) :
    CallsIn Fence.wide n Try.prog 43 #[.func (.yield l) #[] #[], .pointer (some ⟨bt, 0, none⟩), .pointer (some ⟨bf, 0, none⟩), .pointer (some ⟨bo, 0, none⟩)] W fun e W' => (∃ v, e = .returned v) ∧
      ((∃ xs, nextA frm tt (rowsOf xs) xs = none ∧ J xs W') ∨ (∃ pre, Jx pre W')) := by
  refine callsIn_of_wp Try.func43 rfl trivial ?_ rfl
  simp only [Try.ntmps43, List.size_toArray, List.length_cons, List.length_nil, Nat.reduceAdd, Nat.reduceSub, Array.replicate_succ, Array.replicate_zero, List.push_toArray, List.append_toArray, List.nil_append, List.cons_append]
  obtain ⟨⟨P0, htab⟩, hbt, hbf, hbo⟩ := hT [] W h0
  have HN0 := Lib.hid (none_tb htab)
  have HH := Lib.hid (And.intro hab (And.intro hT (And.intro hN hY)))
  have HKS := Lib.hid hK
  clear hab hT hN hY htab hK
  gi_wp2_with (refine ⟨trivial, ?_⟩; gi_at_call 35; refine (callsIn_wide.2 HN0.out).mono ?_; rintro e w' ⟨rfl, rfl⟩)
  clear hbt hbf hbo HN0
  gi_loopg [5] N (fun cnt s5 wr => ∃ pre, pre.length + cnt = N ∧ s5 = .string (atA frm pre) ∧ J pre wr)
  case atStart => exact ⟨[], by simp, rfl, h0⟩
  case round =>
    obtain ⟨pre, hcnt, rfl, hJ⟩ := hrel
    have HC := Lib.hid hcnt
    have HJ := Lib.hid hJ
    obtain ⟨⟨P, htab⟩, hbt, hbf, hbo⟩ := HH.out.2.1 pre wr hJ
    obtain ⟨L, x, sd, hti⟩ := htab
    have c0 : wr.cell? ⟨t, 0, none⟩ = some (.pointer (some ⟨L, 0, none⟩)) := hti.hdr.cell 0
    have HF := Lib.hid (First_li P L (rowsOf pre) wr (atA frm pre) hti.li)
    have HTI := Lib.hid hti
    have hs : Srt Row.k (rowsOf pre) := srt_rows hti.li
    clear hcnt hJ hti hbf
    cases hz : hi Row.k (atA frm pre) (rowsOf pre) with
    | nil =>
      have HEND : Hid (nextA frm tt (rowsOf pre) pre = none) := by show _ = _; unfold nextA; rw [hz]
      have HF2 : Hid (Calls Try.prog 44 #[TP L, .string (atA frm pre)] wr fun e w' => e = .returned (.tuple #[.string ⟨#[]⟩, .bool false]) ∧ Below wr.heap.size wr w') := by have h := HF.out; rw [hz] at h; exact h
      clear HF hs hz
      generalize atA frm pre = a at *
      gi_wp2_with (refine ⟨trivial, ?_⟩; gi_at_call 44; refine (callsIn_wide.2 HF2.out).mono ?_; rintro e w1 ⟨rfl, hb1⟩)
      have HFIN := Lib.hid (HH.out.1 pre _ _ HJ.out (grown_of hb1))
      clear hb1
      refine bodyPost_ret (results_none rfl _ _ _) rfl ?_
      exact ⟨⟨_, rfl⟩, .inl ⟨pre, HEND.out, HFIN.out⟩⟩
    | cons z r =>
      have HF2 : Hid (Calls Try.prog 44 #[TP L, .string (atA frm pre)] wr fun e w' => e = .returned (.tuple #[.string z.k, .bool true]) ∧ Below wr.heap.size wr w') := by have h := HF.out; rw [hz] at h; exact h
      have HSK := Lib.hid (seek_hi hs hz)
      have HNA : Hid (nextA frm tt (rowsOf pre) pre = if belowT tt z = true then some z else none) := by show _ = _; unfold nextA; rw [hz]
      have HBT := Lib.hid (show belowT tt z = (tt.toList.isEmpty || kl z.k tt) from rfl)
      clear HF hs hz
      generalize hat : atA frm pre = a at HF2 ⊢
      clear hat
      cases e1 : tt.toList.isEmpty with
      | true =>
        have HBL : Hid (belowT tt z = true) := by show _ = _; rw [HBT.out, e1]; rfl
        have HNX := Lib.hid (show nextA frm tt (rowsOf pre) pre = some z by rw [HNA.out, if_pos HBL.out])
        have hks := HKS.out pre wr HJ.out z (seek_mem Row.k HSK.out).1
        have hkn : z.k.size + (⟨#[0]⟩ : ByteArray).size ≤ 9223372036854775807 := by
          have : (⟨#[0]⟩ : ByteArray).size = 1 := rfl
          unfold reachBytes at hks
          omega
        clear hks
        have HGET : Hid (∀ w1, Below wr.heap.size wr w1 → Calls Try.prog 41 #[TP L, .string z.k] w1 fun e w' => e = .returned (.tuple #[.string z.v, .bool true]) ∧ Below w1.heap.size w1 w') := fun w1 hb => by
          have h := Get_li P L (rowsOf pre) w1 z.k (HTI.out.li.below hb)
          unfold getV getB at h
          rw [HSK.out] at h
          exact h
        gi_wp2_with (first
          | (refine ⟨trivial, ?_⟩; gi_at_call 44; refine (callsIn_wide.2 HF2.out).mono ?_; rintro e w1 ⟨rfl, hb1⟩
             have c0' : w1.cell? ⟨t, 0, none⟩ = some (.pointer (some ⟨L, 0, none⟩)) := (hb1.cell (p := ⟨t, 0, none⟩) (World.block_lt_of_cell? wr _ c0)).trans c0
             have hbt' : w1.cell? ⟨bt, 0, none⟩ = some (TP t) := (hb1.cell (p := ⟨bt, 0, none⟩) (World.block_lt_of_cell? wr _ hbt)).trans hbt
             have hbo' : w1.cell? ⟨bo, 0, none⟩ = some (.string tt) := (hb1.cell (p := ⟨bo, 0, none⟩) (World.block_lt_of_cell? wr _ hbo)).trans hbo
             have HB1 := Lib.hid hb1
             clear hb1)
          | (refine ⟨trivial, ?_⟩; gi_at_call 41; refine (callsIn_wide.2 (HGET.out w1 HB1.out)).mono ?_; rintro e w2 ⟨rfl, hb2⟩
             obtain ⟨fn, tmps, assign, body, hy, hR⟩ := HH.out.2.2.2 pre z w2 (HH.out.1 pre _ _ (HH.out.1 pre _ _ HJ.out (grown_of HB1.out)) (grown_of hb2)) HNX.out
             unfold encs at hy
             clear hb2))
        refine hR.mono ?_
        rintro e W3 (⟨rfl, hJ3⟩ | ⟨rfl, hJx3⟩)
        · have HJ3 := Lib.hid hJ3
          clear hJ3
          gi_wp2
          go_roundg (N - (pre ++ [z]).length)
          case measure => have := HH.out.2.2.1 pre z wr HJ.out HNX.out; have := HC.out; simp; omega
          case rel => exact ⟨pre ++ [z], by have := HH.out.2.2.1 pre z wr HJ.out HNX.out; simp; omega, by rw [atA_snoc]; rfl, HJ3.out⟩
        · have HJ3 := Lib.hid hJx3
          clear hJx3
          gi_wp2
          refine bodyPost_ret (results_none rfl _ _ _) rfl ?_
          exact ⟨⟨_, rfl⟩, .inr ⟨pre ++ [z], HJ3.out⟩⟩
      | false =>
        cases e2 : kl z.k tt with
        | true =>
        have HBL : Hid (belowT tt z = true) := by show _ = _; rw [HBT.out, e1, e2]; rfl
        have e3 : Op.bytesLess z.k.toList tt.toList = true := e2
        have e4 : Op.bytesLess tt.toList z.k.toList = false := kl_asymm e2
        have e5 : (z.k.toList == tt.toList) = false := keq_false (fun e => by rw [e, kl_irrefl] at e2; cases e2)
        clear e2
        have HNX := Lib.hid (show nextA frm tt (rowsOf pre) pre = some z by rw [HNA.out, if_pos HBL.out])
        have hks := HKS.out pre wr HJ.out z (seek_mem Row.k HSK.out).1
        have hkn : z.k.size + (⟨#[0]⟩ : ByteArray).size ≤ 9223372036854775807 := by
          have : (⟨#[0]⟩ : ByteArray).size = 1 := rfl
          unfold reachBytes at hks
          omega
        clear hks
        have HGET : Hid (∀ w1, Below wr.heap.size wr w1 → Calls Try.prog 41 #[TP L, .string z.k] w1 fun e w' => e = .returned (.tuple #[.string z.v, .bool true]) ∧ Below w1.heap.size w1 w') := fun w1 hb => by
          have h := Get_li P L (rowsOf pre) w1 z.k (HTI.out.li.below hb)
          unfold getV getB at h
          rw [HSK.out] at h
          exact h
        gi_wp2_with (first
          | (refine ⟨trivial, ?_⟩; gi_at_call 44; refine (callsIn_wide.2 HF2.out).mono ?_; rintro e w1 ⟨rfl, hb1⟩
             have c0' : w1.cell? ⟨t, 0, none⟩ = some (.pointer (some ⟨L, 0, none⟩)) := (hb1.cell (p := ⟨t, 0, none⟩) (World.block_lt_of_cell? wr _ c0)).trans c0
             have hbt' : w1.cell? ⟨bt, 0, none⟩ = some (TP t) := (hb1.cell (p := ⟨bt, 0, none⟩) (World.block_lt_of_cell? wr _ hbt)).trans hbt
             have hbo' : w1.cell? ⟨bo, 0, none⟩ = some (.string tt) := (hb1.cell (p := ⟨bo, 0, none⟩) (World.block_lt_of_cell? wr _ hbo)).trans hbo
             have HB1 := Lib.hid hb1
             clear hb1)
          | (refine ⟨trivial, ?_⟩; gi_at_call 41; refine (callsIn_wide.2 (HGET.out w1 HB1.out)).mono ?_; rintro e w2 ⟨rfl, hb2⟩
             obtain ⟨fn, tmps, assign, body, hy, hR⟩ := HH.out.2.2.2 pre z w2 (HH.out.1 pre _ _ (HH.out.1 pre _ _ HJ.out (grown_of HB1.out)) (grown_of hb2)) HNX.out
             unfold encs at hy
             clear hb2))
        refine hR.mono ?_
        rintro e W3 (⟨rfl, hJ3⟩ | ⟨rfl, hJx3⟩)
        · have HJ3 := Lib.hid hJ3
          clear hJ3
          gi_wp2
          go_roundg (N - (pre ++ [z]).length)
          case measure => have := HH.out.2.2.1 pre z wr HJ.out HNX.out; have := HC.out; simp; omega
          case rel => exact ⟨pre ++ [z], by have := HH.out.2.2.1 pre z wr HJ.out HNX.out; simp; omega, by rw [atA_snoc]; rfl, HJ3.out⟩
        · have HJ3 := Lib.hid hJx3
          clear hJx3
          gi_wp2
          refine bodyPost_ret (results_none rfl _ _ _) rfl ?_
          exact ⟨⟨_, rfl⟩, .inr ⟨pre ++ [z], HJ3.out⟩⟩
        | false =>
        have HNX := Lib.hid (show nextA frm tt (rowsOf pre) pre = none by rw [HNA.out, HBT.out, e1, e2]; rfl)
        have e3 : Op.bytesLess z.k.toList tt.toList = false := e2
        clear e2
        gi_wp2_with (refine ⟨trivial, ?_⟩; gi_at_call 44; refine (callsIn_wide.2 HF2.out).mono ?_; rintro e w1 ⟨rfl, hb1⟩
                     have hbo' : w1.cell? ⟨bo, 0, none⟩ = some (.string tt) := (hb1.cell (p := ⟨bo, 0, none⟩) (World.block_lt_of_cell? wr _ hbo)).trans hbo
                     have HFIN := Lib.hid (HH.out.1 pre _ _ HJ.out (grown_of hb1))
                     clear hb1)
        refine bodyPost_ret (results_none rfl _ _ _) rfl ?_
        exact ⟨⟨_, rfl⟩, .inl ⟨pre, HNX.out, HFIN.out⟩⟩

end Tb
end Go.Proofs.Ytoglklldclgcbaa
