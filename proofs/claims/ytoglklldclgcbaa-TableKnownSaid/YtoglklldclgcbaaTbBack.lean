/-
  The iterator of a table: Back's closure, whatever the rounds do to the table in between.
-/
import Derived.Test.YtoglklldclgcbaaTbAll
namespace Go.Proofs.Ytoglklldclgcbaa
open Go.RowKit Go.Shelf Sk
namespace Tb
attribute [local go_sem] Oper.semAt_some

/-- below which key the next one is looked for, when these rows have come -/
def atB (tt : ByteArray) (pre : List Row) : ByteArray := match pre.getLast? with
  | some x => x.k
  | none => tt
theorem atB_snoc (tt : ByteArray) (pre : List Row) (x : Row) : atB tt (pre ++ [x]) = x.k := by simp [atB]
def nextB (frm tt : ByteArray) (rows pre : List Row) : Option Row := match (lastL (atB tt pre) rows).getLast? with
  | some z => if kl z.k frm = true then none else some z
  | none => none
theorem seek_of_mem {rows : List Row} (hs : Srt Row.k rows) {x : Row} (hx : x ∈ rows) : seek Row.k x.k rows = some x := by
  obtain ⟨a, b, rfl⟩ := List.append_of_mem hx
  obtain ⟨_, h2, h3⟩ := List.pairwise_append.1 hs
  have r1 := lo_eq Row.k (key := x.k) (pre := a) (post := x :: b) (fun y hy => h3 y hy x (List.mem_cons_self)) (fun z hz => by
    rcases List.mem_cons.1 hz with rfl | hz
    · exact kl_irrefl _
    · exact kl_asymm ((List.pairwise_cons.1 h2).1 z hz))
  unfold seek
  rw [r1.2]
  show (if (x.k.toList == x.k.toList) = true then some x else none) = _
  simp
theorem lastL_mem {key : ByteArray} {rows : List Row} {z : Row} (h : (lastL key rows).getLast? = some z) : z ∈ rows := by
  have := List.mem_of_getLast? h
  unfold lastL at this
  split at this
  · exact this
  · exact (List.takeWhile_sublist _).subset this

set_option maxRecDepth 100000 in
set_option maxHeartbeats 4000000 in
theorem Back1_in (n : Nat) (hn : 1 ≤ n) (l bt bf bo t : Nat) (frm tt : ByteArray) (N : Nat) (rowsOf : List Row → List Row) (J Jx : List Row → World → Prop)
    (hab : ∀ pre A B, J pre A → A.grownBy B none → J pre B)
    (hT : ∀ pre W, J pre W → (∃ P, Tab P W t (rowsOf pre)) ∧ W.cell? ⟨bt, 0, none⟩ = some (TP t) ∧ W.cell? ⟨bf, 0, none⟩ = some (.string frm) ∧ W.cell? ⟨bo, 0, none⟩ = some (.string tt))
    (hN : ∀ pre x W, J pre W → nextB frm tt (rowsOf pre) pre = some x → pre.length < N)
    (hY : ∀ pre x W, J pre W → nextB frm tt (rowsOf pre) pre = some x → YieldAt Fence.wide (n - 1) Try.prog l (encs x) W fun e W' =>
      (e = .returned (.bool true) ∧ J (pre ++ [x]) W') ∨ (e = .returned (.bool false) ∧ Jx (pre ++ [x]) W'))
    (W : World) (h0 : J [] W) :
    CallsIn Fence.wide n Try.prog 45 #[.func (.yield l) #[] #[], .pointer (some ⟨bt, 0, none⟩), .pointer (some ⟨bo, 0, none⟩), .pointer (some ⟨bf, 0, none⟩)] W fun e W' => (∃ v, e = .returned v) ∧
      ((∃ xs, nextB frm tt (rowsOf xs) xs = none ∧ J xs W') ∨ (∃ pre, Jx pre W')) := by
  refine callsIn_of_wp Try.func45 rfl trivial ?_ rfl
  simp only [Try.ntmps45, List.size_toArray, List.length_cons, List.length_nil, Nat.reduceAdd, Nat.reduceSub, Array.replicate_succ, Array.replicate_zero, List.push_toArray, List.append_toArray, List.nil_append, List.cons_append]
  obtain ⟨⟨P0, htab⟩, hbt, hbf, hbo⟩ := hT [] W h0
  have HN0 := Lib.hid (none_tb htab)
  have HH := Lib.hid (And.intro hab (And.intro hT (And.intro hN hY)))
  clear hab hT hN hY htab
  gi_wp2_with (refine ⟨trivial, ?_⟩; gi_at_call 35; refine (callsIn_wide.2 HN0.out).mono ?_; rintro e w' ⟨rfl, rfl⟩)
  clear hbt hbf hbo HN0
  gi_loopg [5] N (fun cnt s5 wr => ∃ pre, pre.length + cnt = N ∧ s5 = .string (atB tt pre) ∧ J pre wr)
  case atStart => exact ⟨[], by simp, rfl, h0⟩
  case round =>
    obtain ⟨pre, hcnt, rfl, hJ⟩ := hrel
    have HC := Lib.hid hcnt
    have HJ := Lib.hid hJ
    obtain ⟨⟨P, htab⟩, hbt, hbf, hbo⟩ := HH.out.2.1 pre wr hJ
    obtain ⟨L, x, sd, hti⟩ := htab
    have c0 : wr.cell? ⟨t, 0, none⟩ = some (.pointer (some ⟨L, 0, none⟩)) := hti.hdr.cell 0
    have HF := Lib.hid (Last_li P L (rowsOf pre) wr (atB tt pre) hti.li)
    have HTI := Lib.hid hti
    have hs : Srt Row.k (rowsOf pre) := srt_rows hti.li
    clear hcnt hJ hti hbo
    cases hz : (lastL (atB tt pre) (rowsOf pre)).getLast? with
    | none =>
      have HEND : Hid (nextB frm tt (rowsOf pre) pre = none) := by show _ = _; unfold nextB; rw [hz]
      have HF2 : Hid (Calls Try.prog 46 #[TP L, .string (atB tt pre)] wr fun e w' => e = .returned (.tuple #[.string ⟨#[]⟩, .bool false]) ∧ Below wr.heap.size wr w') := by have h := HF.out; rw [hz] at h; exact h
      clear HF hs hz
      generalize atB tt pre = a at *
      gi_wp2_with (refine ⟨trivial, ?_⟩; gi_at_call 46; refine (callsIn_wide.2 HF2.out).mono ?_; rintro e w1 ⟨rfl, hb1⟩)
      have HFIN := Lib.hid (HH.out.1 pre _ _ HJ.out (grown_of hb1))
      clear hb1
      refine bodyPost_ret (results_none rfl _ _ _) rfl ?_
      exact ⟨⟨_, rfl⟩, .inl ⟨pre, HEND.out, HFIN.out⟩⟩
    | some z =>
      have HF2 : Hid (Calls Try.prog 46 #[TP L, .string (atB tt pre)] wr fun e w' => e = .returned (.tuple #[.string z.k, .bool true]) ∧ Below wr.heap.size wr w') := by have h := HF.out; rw [hz] at h; exact h
      have HSK := Lib.hid (seek_of_mem hs (lastL_mem hz))
      have HNA : Hid (nextB frm tt (rowsOf pre) pre = if kl z.k frm = true then none else some z) := by show _ = _; unfold nextB; rw [hz]
      clear HF hs hz
      generalize hat : atB tt pre = a at HF2 ⊢
      clear hat
      cases e2 : kl z.k frm with
      | false =>
        have HNX := Lib.hid (show nextB frm tt (rowsOf pre) pre = some z by rw [HNA.out, e2]; rfl)
        have e3 : Op.bytesLess z.k.toList frm.toList = false := e2
        have HGET : Hid (∀ w1, Below wr.heap.size wr w1 → Calls Try.prog 41 #[TP L, .string z.k] w1 fun e w' => e = .returned (.tuple #[.string z.v, .bool true]) ∧ Below w1.heap.size w1 w') := fun w1 hb => by
          have h := Get_li P L (rowsOf pre) w1 z.k (HTI.out.li.below hb)
          unfold getV getB at h
          rw [HSK.out] at h
          exact h
        clear e2
        gi_wp2_with (first
          | (refine ⟨trivial, ?_⟩; gi_at_call 46; refine (callsIn_wide.2 HF2.out).mono ?_; rintro e w1 ⟨rfl, hb1⟩
             have c0' : w1.cell? ⟨t, 0, none⟩ = some (.pointer (some ⟨L, 0, none⟩)) := (hb1.cell (p := ⟨t, 0, none⟩) (World.block_lt_of_cell? wr _ c0)).trans c0
             have hbt' : w1.cell? ⟨bt, 0, none⟩ = some (TP t) := (hb1.cell (p := ⟨bt, 0, none⟩) (World.block_lt_of_cell? wr _ hbt)).trans hbt
             have hbf' : w1.cell? ⟨bf, 0, none⟩ = some (.string frm) := (hb1.cell (p := ⟨bf, 0, none⟩) (World.block_lt_of_cell? wr _ hbf)).trans hbf
             have HB1 := Lib.hid hb1
             clear hb1)
          | (refine ⟨trivial, ?_⟩; gi_at_call 41; refine (callsIn_wide.2 (HGET.out w1 HB1.out)).mono ?_; rintro e w2 ⟨rfl, hb2⟩
             obtain ⟨fn, tmps, assign, body, hy, hR⟩ := HH.out.2.2.2 pre z w2 (HH.out.1 pre _ _ (HH.out.1 pre _ _ HJ.out (grown_of HB1.out)) (grown_of hb2)) HNX.out
             unfold encs at hy
             clear hb2))
        refine hR.mono ?_
        rintro e W3 (⟨rfl, hJ3⟩ | ⟨rfl, hJx3⟩)
        · have HJ3 := Lib.hid hJ3
          clear hJ3
          gi_wp2
          go_roundg (N - (pre ++ [z]).length)
          case measure => have := HH.out.2.2.1 pre z wr HJ.out HNX.out; have := HC.out; simp; omega
          case rel => exact ⟨pre ++ [z], by have := HH.out.2.2.1 pre z wr HJ.out HNX.out; simp; omega, by rw [atB_snoc], HJ3.out⟩
        · have HJ3 := Lib.hid hJx3
          clear hJx3
          gi_wp2
          refine bodyPost_ret (results_none rfl _ _ _) rfl ?_
          exact ⟨⟨_, rfl⟩, .inr ⟨pre ++ [z], HJ3.out⟩⟩
      | true =>
        have HNX := Lib.hid (show nextB frm tt (rowsOf pre) pre = none by rw [HNA.out, e2]; rfl)
        have e3 : Op.bytesLess z.k.toList frm.toList = true := e2
        clear e2
        gi_wp2_with (refine ⟨trivial, ?_⟩; gi_at_call 46; refine (callsIn_wide.2 HF2.out).mono ?_; rintro e w1 ⟨rfl, hb1⟩
                     have hbf' : w1.cell? ⟨bf, 0, none⟩ = some (.string frm) := (hb1.cell (p := ⟨bf, 0, none⟩) (World.block_lt_of_cell? wr _ hbf)).trans hbf
                     have HFIN := Lib.hid (HH.out.1 pre _ _ HJ.out (grown_of hb1))
                     clear hb1)
        refine bodyPost_ret (results_none rfl _ _ _) rfl ?_
        exact ⟨⟨_, rfl⟩, .inl ⟨pre, HNX.out, HFIN.out⟩⟩

end Tb
end Go.Proofs.Ytoglklldclgcbaa
