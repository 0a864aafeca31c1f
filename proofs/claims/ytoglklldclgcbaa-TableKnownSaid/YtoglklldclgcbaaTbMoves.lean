/-
  Plain: a table that turns while it is ranged over; a table and the reference's, each of cells.
-/
import Derived.Test.YtoglklldclgcbaaTbCopy
import Derived.Test.YtoglklldclgcbaaTbRangesWalk
namespace Go.Proofs.Ytoglklldclgcbaa
open Go.RowKit Go.Shelf Sk
namespace Tb

/-- the rows behind so many rounds -/
def mv (ls : List (List Chg)) (m : Nat) : List Row := (ls.take m).foldl (fun r l => appT l r) (tRows ls 10)
theorem mv_zero (ls : List (List Chg)) : mv ls 0 = tRows ls 10 := rfl
theorem mv_succ {ls : List (List Chg)} {m : Nat} {l : List Chg} (h : ls[m]? = some l) : mv ls (m + 1) = appT l (mv ls m) := by
  obtain ⟨hm, rfl⟩ := List.getElem?_eq_some_iff.1 h
  unfold mv
  rw [List.take_succ_eq_append_getElem hm, List.foldl_append]
  rfl
theorem mv_past {ls : List (List Chg)} {m : Nat} (h : ls.length ≤ m) : mv ls (m + 1) = mv ls m := by
  unfold mv
  rw [List.take_of_length_le (by omega), List.take_of_length_le h]
theorem mv_len (ls : List (List Chg)) : ∀ m, (mv ls m).length ≤ 1280 + m * 128
  | 0 => by rw [mv_zero]; have := tRows_len ls 10; omega
  | m + 1 => by
    have ih := mv_len ls m
    by_cases h : m < ls.length
    · rw [mv_succ (List.getElem?_eq_getElem h)]
      have := appT_len ls[m] (mv ls m)
      omega
    · rw [mv_past (by omega)]
      omega
theorem mv_small {ls : List (List Chg)} (hk : ∀ l ∈ ls, ∀ o ∈ l, o.k.size ≤ reachBytes) : ∀ m, ∀ x ∈ mv ls m, x.k.size ≤ reachBytes
  | 0 => by rw [mv_zero]; exact tRows_all (Q := fun x => x.k.size ≤ reachBytes) (fun l hl o ho _ => hk l hl o ho) 10
  | m + 1 => by
    have ih := mv_small hk m
    by_cases h : m < ls.length
    · rw [mv_succ (List.getElem?_eq_getElem h)]
      intro x hx
      rcases mem_appT hx with ⟨o, ho, rfl, _⟩ | hx
      · exact hk _ (List.getElem_mem h) o ho
      · exact ih x hx
    · rw [mv_past (by omega)]
      exact ih
theorem tRows_ten {ls : List (List Chg)} : tRows ls (min ls.length 10) = tRows ls 10 := by
  by_cases h : ls.length ≤ 10
  · rw [Nat.min_eq_left h]
    unfold tRows
    rw [List.take_of_length_le (Nat.le_refl _), List.take_of_length_le h]
  · rw [Nat.min_eq_right (by omega)]
/-- what the reference tells of what comes next -/
theorem next_flt {frm tt : ByteArray} {rows pre : List Row} (hs : Srt Row.k rows) {x : Row} (h : nextA frm tt rows pre = some x) : ∃ r, flt (atA frm pre) tt rows = x :: r := by
  obtain ⟨r, hr, hb⟩ := nextA_some h
  rw [← btw_flt hs]
  unfold btw
  rw [hr, List.takeWhile_cons, if_pos hb]
  exact ⟨_, rfl⟩
theorem end_flt {frm tt : ByteArray} {rows pre : List Row} (hs : Srt Row.k rows) (h : nextA frm tt rows pre = none) : flt (atA frm pre) tt rows = [] := by
  rw [← btw_flt hs]
  exact nextA_none h

/-- a table and the reference's, apart, each of cells -/
structure TwoC (F : Nat → Prop) (t p : Nat) (r1 r2 : List Row) (w : World) : Prop where
  ex : ∃ P R v, At P w t r1 ∧ RefIs R w p v r2 ∧ (∀ k, R k → k < w.heap.size) ∧ (∀ k, P k → ¬ R k) ∧ (∀ k, P k → ¬ F k) ∧ (∀ k, R k → ¬ F k) ∧ (∀ k, P k → ∃ T, kindOf w k = some T) ∧ (∀ k, R k → ∃ T, kindOf w k = some T)
  fl : ∀ k, F k → k < w.heap.size
theorem Two.cells {F : Nat → Prop} {t p : Nat} {r1 r2 : List Row} {w : World} (h : Two F t p r1 r2 w) : TwoC F t p r1 r2 w := by
  obtain ⟨P, R, v, h1, h2, h3, h4, h5, h6⟩ := h.ex
  obtain ⟨P0, p1, p2, p3⟩ := h1.exact
  refine ⟨⟨P0, fun k => k = p ∨ v.ownBlock = some k, v, p1, ⟨h2.hdr, h2.own, .inl rfl, fun g hg => .inr hg⟩, fun k hk => ?_, fun k hk hR => ?_, fun k hk => h5 k (p2 k hk), fun k hk => ?_, p3, fun k hk => ?_⟩, h.fl⟩
  · rcases hk with rfl | hk
    · exact h2.hdr.lt
    · exact (h2.own.lt k hk).2
  · refine h4 k (p2 k hk) ?_
    rcases hR with rfl | hR
    · exact h2.rp
    · exact h2.rv k hR
  · refine h6 k ?_
    rcases hk with rfl | hk
    · exact h2.rp
    · exact h2.rv k hk
  · rcases hk with rfl | hk
    · exact ⟨_, kind_blk h2.hdr⟩
    · rcases owns_form h2.own with ⟨rfl, _, _⟩ | ⟨g, cap, rfl, _, _⟩
      · simp [Value.ownBlock] at hk
      · obtain ⟨cs, hb⟩ := owns_blk h2.own
        have : g = k := by simpa [Value.ownBlock] using hk
        subst this
        exact ⟨_, kind_blk hb⟩
section
variable {F : Nat → Prop} {t p : Nat} {r1 r2 : List Row} {w : World}
theorem TwoC.two (h : TwoC F t p r1 r2 w) : Two F t p r1 r2 w := by
  obtain ⟨P, R, v, h1, h2, h3, h4, h5, h6, _⟩ := h.ex
  exact ⟨⟨P, R, v, h1, h2, h3, h4, h5, h6⟩, h.fl⟩
theorem TwoC.keep (h : TwoC F t p r1 r2 w) {w' : World} {S : Nat → Prop} (ht : Turns S w w') (hS : ∀ k, k < w.heap.size → S k → F k) : TwoC F t p r1 r2 w' := (h.two.keep ht hS).cells
theorem TwoC.below (h : TwoC F t p r1 r2 w) {w' : World} (hb : Below w.heap.size w w') : TwoC F t p r1 r2 w' := (h.two.below hb).cells
/-- a turn of what is no cells -/
theorem TwoC.grown (h : TwoC F t p r1 r2 w) {w' : World} {row : Option Nat} (hg : w.grownBy w' row) (hr : ∀ r, row = some r → ∃ o : Obj, w.heap[r]? = some o ∧ o.isCells = false) : TwoC F t p r1 r2 w' := by
  obtain ⟨P, R, v, h1, h2, h3, h4, h5, h6, h7, h8⟩ := h.ex
  have hgt := Turns.of_grown hg
  have hno : ∀ k, (∃ T, kindOf w k = some T) → ¬ row = some k := fun k ⟨T, hT⟩ e => by
    obtain ⟨o, ho, hc⟩ := hr k e
    rw [kind_cells ho hc] at hT
    cases hT
  exact (Two.cells ⟨⟨P, R, v, h1.keep hgt (fun k hk => hno k (h7 k hk)), h2.keep hgt (fun k hk => hno k (h8 k hk)), fun k hk => Nat.lt_of_lt_of_le (h3 k hk) hg.size, h4, h5, h6⟩, fun k hk => Nat.lt_of_lt_of_le (h.fl k hk) hg.size⟩)
theorem TwoC.apply_t (h : TwoC F t p r1 r2 w) {A : Option Addr} {len cap : Nat} {l : List Chg} (ho : Ops w A len cap l) (hA : ∀ g o, A = some ⟨g, o, none⟩ → l ≠ [] → F g) (hr : r1.length ≤ 900000) :
    Calls Try.prog 14 #[TP t, .slice A len cap] w fun e w' => e = .returned (.int .i64 (chkO l)) ∧ TwoC F t p (appT l r1) r2 w' ∧ Turns (fun k => ¬ F k) w w' ∧ ∀ B, KeepsFrom B w w' := by
  obtain ⟨P, R, v, h1, h2, h3, h4, h5, h6, h7, h8⟩ := h.ex
  refine (Apply_at h1 ho (fun g o hg hl hp => h5 g hp (hA g o hg hl)) hr).mono fun e w' ⟨he, ht, hturn⟩ => ⟨he, Two.cells ⟨⟨_, R, v, ht, h2.keep hturn (fun k hk hp => h4 k hp hk), fun k hk => Nat.lt_of_lt_of_le (h3 k hk) hturn.size, fun k hk hR => ?_, fun k hk hF => ?_, h6⟩, fun k hk => Nat.lt_of_lt_of_le (h.fl k hk) hturn.size⟩, hturn.mono fun k _ hk => h5 k hk, fun B => keeps_turns hturn h7⟩
  · rcases hk with hk | hk
    · exact h4 k hk hR
    · have := h3 k hR; omega
  · rcases hk with hk | hk
    · exact h5 k hk hF
    · have := h.fl k hF; omega
theorem TwoC.apply_r (h : TwoC F t p r1 r2 w) {A : Option Addr} {len cap : Nat} {l : List Chg} (ho : Ops w A len cap l) (hA : ∀ g o, A = some ⟨g, o, none⟩ → l ≠ [] → F g) (hr : r2.length ≤ 900000) :
    Calls Try.prog 15 #[TP p, .slice A len cap] w fun e w' => e = .returned (.int .i64 (chkO l)) ∧ TwoC F t p r1 (appT l r2) w' ∧ Turns (fun k => ¬ F k) w w' ∧ ∀ B, KeepsFrom B w w' := by
  obtain ⟨P, R, v, h1, h2, h3, h4, h5, h6, h7, h8⟩ := h.ex
  refine (Apply_ref R p v r2 A len cap l w h2 ho (fun g o hg hl e => h6 p h2.rp (e ▸ hA g o hg hl)) hr).mono fun e w' ⟨he, v', hr', hturn⟩ => ⟨he, Two.cells ⟨⟨P, _, v', h1.keep hturn (fun k hk e => h4 k hk (e ▸ h2.rp)), hr', fun k hk => ?_, fun k hk hR => ?_, h5, fun k hk hF => ?_⟩, fun k hk => Nat.lt_of_lt_of_le (h.fl k hk) hturn.size⟩, hturn.mono fun k _ hk => by rw [hk]; exact h6 p h2.rp, fun B => keeps_turns hturn fun k hk => h8 k (hk ▸ h2.rp)⟩
  · rcases hk with hk | hk
    · exact Nat.lt_of_lt_of_le (h3 k hk) hturn.size
    · exact hk.2
  · rcases hR with hR | hR
    · exact h4 k hk hR
    · have := h1.lt k hk; omega
  · rcases hk with hk | hk
    · exact h6 k hk hF
    · have := h.fl k hF; omega
end
theorem keeps_below {B : Nat} {W W' : World} (h : Below W.heap.size W W') : KeepsFrom B W W' :=
  ⟨h.size, fun k _ _ hk _ => (h.block k (Array.getElem?_eq_some_iff.1 hk).1).trans hk⟩

/-- between two rounds -/
structure MvI (F : Nat → Prop) (wL : World) (t p bat bmany bres : Nat) (frm : ByteArray) (ls : List (List Chg)) (pre : List Row) (W : World) : Prop where
  fr : Turns (fun k => ¬ F k) wL W
  two : TwoC (fun k => F k ∨ k = bat ∨ k = bmany ∨ k = bres) t p (mv ls pre.length) (mv ls pre.length) W
  cat : Boxed W bat 9 (.string (atA frm pre))
  cmany : Boxed W bmany 3 (.int .i64 (pre.length : Nat))
  cres : ∃ q, Boxed W bres 4 (.bool q)
  lt : pre.length < 20
/-- behind the twentieth -/
structure MvX (F : Nat → Prop) (wL : World) (bres : Nat) (c : Code) (W : World) : Prop where
  ret : c = .ret
  fr : Turns (fun k => ¬ F k) wL W
  res : Boxed W bres 4 (.bool true)
theorem boxed_grown {W W' : World} {b T : Nat} {v : Value} {row : Option Nat} (h : Boxed W b T v) (hg : W.grownBy W' row) (hr : ∀ r, row = some r → ∃ o : Obj, W.heap[r]? = some o ∧ o.isCells = false) : Boxed W' b T v :=
  h.kept hg (fun e => by
    obtain ⟨o, ho, hc⟩ := hr b e.symm
    rw [show W.heap[b]? = _ from h] at ho
    cases ho
    cases hc)
theorem boxed_turns {W W' : World} {b T : Nat} {v : Value} {S : Nat → Prop} (h : Boxed W b T v) (ht : Turns S W W') (hb : ¬ S b) : Boxed W' b T v := (ht.block b h.lt hb).trans h
theorem mv_own {F : Nat → Prop} {wL : World} {t p bat bmany bres : Nat} {frm : ByteArray} {ls : List (List Chg)} (hF : ∀ k, F k → k < wL.heap.size) : OwnFrom wL.heap.size (MvI F wL t p bat bmany bres frm ls) := by
  rintro pre W W' row ⟨hfr, h2, h3, h4, ⟨q, h5⟩, h6⟩ hg hr
  have hr2 : ∀ r, row = some r → ∃ o : Obj, W.heap[r]? = some o ∧ o.isCells = false := fun r e => (hr r e).2
  exact ⟨hfr.trans (Turns.of_grown hg) (fun k _ e hF' => by have := (hr k e).1; have := hF k hF'; omega), h2.grown hg hr2, boxed_grown h3 hg hr2, boxed_grown h4 hg hr2, ⟨q, boxed_grown h5 hg hr2⟩, h6⟩
theorem mvx_own {F : Nat → Prop} {wL : World} {bres : Nat} (hF : ∀ k, F k → k < wL.heap.size) (c : Code) : OwnFrom wL.heap.size (fun (_ : List Row) W => MvX F wL bres c W) := by
  rintro pre W W' row ⟨hc, hfr, h5⟩ hg hr
  exact ⟨hc, hfr.trans (Turns.of_grown hg) (fun k _ e hF' => by have := (hr k e).1; have := hF k hF'; omega), boxed_grown h5 hg (fun r e => (hr r e).2)⟩

def MvRel (F : Nat → Prop) (w5 : World) (t p : Nat) (ls : List (List Chg)) (n cnt : Nat) (s : Value) (w1 : World) : Prop :=
  ∃ k, k + cnt = n ∧ s = .int .i64 (k : Nat) ∧ Two F t p (tRows ls k) (tRows ls k) w1 ∧ Turns (fun k => ¬ F k) w5 w1

/-- within a round -/
structure MvJ (F : Nat → Prop) (wL : World) (t p bat bmany bres : Nat) (a : ByteArray) (m : Int) (r1 r2 : List Row) (W0 W : World) : Prop where
  kp : KeepsFrom wL.heap.size W0 W
  fr : Turns (fun k => ¬ F k) wL W
  two : TwoC (fun k => F k ∨ k = bat ∨ k = bmany ∨ k = bres) t p r1 r2 W
  cat : Boxed W bat 9 (.string a)
  cmany : Boxed W bmany 3 (.int .i64 m)
  cres : ∃ q, Boxed W bres 4 (.bool q)
section
variable {F : Nat → Prop} {wL : World} {t p bat bmany bres : Nat} {a : ByteArray} {m : Int} {r1 r2 : List Row} {W0 W W' : World}
theorem MvI.start {frm : ByteArray} {ls : List (List Chg)} {pre : List Row} (h : MvI F wL t p bat bmany bres frm ls pre W) : MvJ F wL t p bat bmany bres (atA frm pre) (pre.length : Nat) (mv ls pre.length) (mv ls pre.length) W W :=
  ⟨KeepsFrom.refl _ _, h.fr, h.two, h.cat, h.cmany, h.cres⟩
theorem MvJ.below (h : MvJ F wL t p bat bmany bres a m r1 r2 W0 W) (hb : Below W.heap.size W W') : MvJ F wL t p bat bmany bres a m r1 r2 W0 W' := by
  obtain ⟨q, hq⟩ := h.cres
  exact ⟨h.kp.trans (keeps_below hb), h.fr.trans (Turns.of_below (S := fun k => ¬ F k) hb) (fun _ _ h => h), h.two.below hb, (hb.block _ h.cat.lt).trans h.cat, (hb.block _ h.cmany.lt).trans h.cmany, ⟨q, (hb.block _ hq.lt).trans hq⟩⟩
theorem set_turns (W : World) (b : Nat) (v : Value) : Turns (fun k => k = b) W (W.setCell ⟨b, 0, none⟩ v) := (Turns.refl (fun k => k = b) W).setCell (p := ⟨b, 0, none⟩) (fun _ => rfl) v
theorem MvJ.at (h : MvJ F wL t p bat bmany bres a m r1 r2 W0 W) (a' : ByteArray) (h1 : bat ≠ bmany) (h2 : bat ≠ bres) (hF : ¬ F bat) : MvJ F wL t p bat bmany bres a' m r1 r2 W0 (W.setCell ⟨bat, 0, none⟩ (.string a')) := by
  obtain ⟨q, hq⟩ := h.cres
  have ht := set_turns W bat (.string a')
  exact ⟨h.kp.trans ((KeepsOthers.setCell W _ _).from _), h.fr.trans ht (fun k _ e => e ▸ hF), h.two.keep ht (fun k _ e => .inr (.inl e)), h.cat.set _, h.cmany.other (fun e => h1 e.symm) _, ⟨q, hq.other (fun e => h2 e.symm) _⟩⟩
theorem MvJ.many (h : MvJ F wL t p bat bmany bres a m r1 r2 W0 W) (m' : Int) (h1 : bat ≠ bmany) (h2 : bmany ≠ bres) (hF : ¬ F bmany) : MvJ F wL t p bat bmany bres a m' r1 r2 W0 (W.setCell ⟨bmany, 0, none⟩ (.int .i64 m')) := by
  obtain ⟨q, hq⟩ := h.cres
  have ht := set_turns W bmany (.int .i64 m')
  exact ⟨h.kp.trans ((KeepsOthers.setCell W _ _).from _), h.fr.trans ht (fun k _ e => e ▸ hF), h.two.keep ht (fun k _ e => .inr (.inr (.inl e))), h.cat.other h1 _, h.cmany.set _, ⟨q, hq.other (fun e => h2 e.symm) _⟩⟩
theorem MvJ.res (h : MvJ F wL t p bat bmany bres a m r1 r2 W0 W) (q' : Bool) (h1 : bat ≠ bres) (h2 : bmany ≠ bres) (hF : ¬ F bres) : MvJ F wL t p bat bmany bres a m r1 r2 W0 (W.setCell ⟨bres, 0, none⟩ (.bool q')) ∧ Boxed (W.setCell ⟨bres, 0, none⟩ (.bool q')) bres 4 (.bool q') := by
  obtain ⟨q, hq⟩ := h.cres
  have ht := set_turns W bres (.bool q')
  exact ⟨⟨h.kp.trans ((KeepsOthers.setCell W _ _).from _), h.fr.trans ht (fun k _ e => e ▸ hF), h.two.keep ht (fun k _ e => .inr (.inr (.inr e))), h.cat.other h1 _, h.cmany.other h2 _, ⟨_, hq.set _⟩⟩, hq.set _⟩
theorem MvJ.turned (h : MvJ F wL t p bat bmany bres a m r1 r2 W0 W) {r1' r2' : List Row} (h2 : TwoC (fun k => F k ∨ k = bat ∨ k = bmany ∨ k = bres) t p r1' r2' W') (ht : Turns (fun k => ¬ (F k ∨ k = bat ∨ k = bmany ∨ k = bres)) W W') (hk : ∀ B, KeepsFrom B W W') : MvJ F wL t p bat bmany bres a m r1' r2' W0 W' := by
  obtain ⟨q, hq⟩ := h.cres
  exact ⟨h.kp.trans (hk _), h.fr.trans ht (fun k _ e hF => e (.inl hF)), h2, boxed_turns h.cat ht (fun e => e (.inr (.inl rfl))), boxed_turns h.cmany ht (fun e => e (.inr (.inr (.inl rfl)))), ⟨q, boxed_turns hq ht (fun e => e (.inr (.inr (.inr rfl))))⟩⟩
end

theorem Boxed.put {W : World} {b T D : Nat} {v : Value} (h : Boxed W b T v) (hd : b ≠ D) (o : Obj) : Boxed (W.putObj D o) b T v := (World.putObj_heap_other hd).trans h
theorem results_box {fn : Func} {p : Tmp} {ty : TypeId} (h : fn.results = #[.cell p ty]) (tmps : Array Value) (b : Nat) (v : Value) {w : World} (ha : tmps.getD p undef = .pointer (some ⟨b, 0, none⟩)) (hw : Boxed w b ty v) (hty : (isAgg ty).run Try.prog w = .ok false w) : (results fn tmps).run Try.prog w = .ok v w := by
  have hc := hw.cell
  have hp : tmps[p]?.getD undef = .pointer (some ⟨b, 0, none⟩) := by simpa using ha
  have hl : (loadVar ty ⟨b, 0, none⟩).run Try.prog w = .ok v w := by
    unfold loadVar
    rw [Sem.run_bind, hty]
    simp [Result.andThen, hc, go_sem]
  simp [results, h, hp, asAddr, hl]

end Tb
end Go.Proofs.Ytoglklldclgcbaa
