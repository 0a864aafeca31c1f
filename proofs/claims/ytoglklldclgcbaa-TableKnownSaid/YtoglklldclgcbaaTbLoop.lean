/-
  A loop over an iterator whose next row hangs on what was told so far, and on a table that the rounds may turn: an own law, out of the base law for a loop over a function.
-/
import Derived.Test.YtoglklldclgcbaaTbMade
import Derived.RangeFuncWrites
namespace Go.Proofs.Ytoglklldclgcbaa
open Go.RowKit Go.Shelf Sk
namespace Tb

/-- what an iterator tells: T holds whenever it looks; nxt: the next row, by what was told -/
def SeqNext (n : Nat) (gf : Nat) (lb : Array Value) (T : List Row → World → Prop) (nxt : List Row → Option Row) : Prop :=
  ∀ (l : Nat) (J Jx : List Row → World → Prop) (W : World), (∀ pre A B, J pre A → A.grownBy B none → J pre B) → (∀ pre W, J pre W → T pre W) →
    (∀ pre x W, J pre W → nxt pre = some x → YieldAt Fence.wide (n - 1) Try.prog l (encs x) W fun e W' => (e = .returned (.bool true) ∧ J (pre ++ [x]) W') ∨ (e = .returned (.bool false) ∧ Jx (pre ++ [x]) W')) →
    J [] W → CallsIn Fence.wide n Try.prog gf (#[.func (.yield l) #[] #[]] ++ lb) W fun e W' => (∃ v, e = .returned v) ∧ ((∃ xs, nxt xs = none ∧ J xs W') ∨ (∃ pre, Jx pre W'))

/-- what All wants of a table at t, whose rows hang on what was told -/
structure TabT (bt bf bo t : Nat) (frm tt : ByteArray) (rowsOf : List Row → List Row) (nxt : List Row → Option Row) (N : Nat) (pre : List Row) (W : World) : Prop where
  tab : ∃ P, Tab P W t (rowsOf pre)
  ct : W.cell? ⟨bt, 0, none⟩ = some (TP t)
  cf : W.cell? ⟨bf, 0, none⟩ = some (.string frm)
  co : W.cell? ⟨bo, 0, none⟩ = some (.string tt)
  small : ∀ x ∈ rowsOf pre, x.k.size ≤ reachBytes
  ends : ∀ x, nxt pre = some x → pre.length < N
theorem All_next (n : Nat) (hn : 1 ≤ n) (bt bf bo t : Nat) (frm tt : ByteArray) (N : Nat) (rowsOf : List Row → List Row) :
    SeqNext n 43 #[.pointer (some ⟨bt, 0, none⟩), .pointer (some ⟨bf, 0, none⟩), .pointer (some ⟨bo, 0, none⟩)] (TabT bt bf bo t frm tt rowsOf (fun pre => nextA frm tt (rowsOf pre) pre) N) (fun pre => nextA frm tt (rowsOf pre) pre) :=
  fun l J Jx W hab hT hY h0 => All1_in n hn l bt bf bo t frm tt N rowsOf J Jx hab (fun pre W h => ⟨(hT pre W h).tab, (hT pre W h).ct, (hT pre W h).cf, (hT pre W h).co⟩) (fun pre W h => (hT pre W h).small) (fun pre x W h hx => (hT pre W h).ends x hx) hY W h0
theorem Back_next (n : Nat) (hn : 1 ≤ n) (bt bf bo t : Nat) (frm tt : ByteArray) (N : Nat) (rowsOf : List Row → List Row) :
    SeqNext n 45 #[.pointer (some ⟨bt, 0, none⟩), .pointer (some ⟨bo, 0, none⟩), .pointer (some ⟨bf, 0, none⟩)] (TabT bt bf bo t frm tt rowsOf (fun pre => nextB frm tt (rowsOf pre) pre) N) (fun pre => nextB frm tt (rowsOf pre) pre) :=
  fun l J Jx W hab hT hY h0 => Back1_in n hn l bt bf bo t frm tt N rowsOf J Jx hab (fun pre W h => ⟨(hT pre W h).tab, (hT pre W h).ct, (hT pre W h).cf, (hT pre W h).co⟩) (fun pre x W h hx => (hT pre W h).ends x hx) hY W h0

/-- the two blocks that the statement itself has laid -/
structure Books (B : Nat) (r : Loop) (W : World) : Prop where
  mark : W.heap[B]? = some (.deferred (some []))
  note : W.heap[B + 1]? = some (.loop r)
theorem Books.grown {B : Nat} {r : Loop} {A W : World} (h : Books B r A) (hg : A.grownBy W none) : Books B r W :=
  ⟨(hg.block B (Array.getElem?_eq_some_iff.1 h.mark).1 (by simp)).trans h.mark, (hg.block (B + 1) (Array.getElem?_eq_some_iff.1 h.note).1 (by simp)).trans h.note⟩
theorem Books.put {B : Nat} {r : Loop} {W : World} (h : Books B r W) (r' : Loop) : Books B r' (W.putObj (B + 1) (.loop r')) :=
  ⟨(World.putObj_heap_other (by omega)).trans h.mark, World.putObj_heap_same (Array.getElem?_eq_some_iff.1 h.note).1⟩
theorem Books.keep {B : Nat} {r : Loop} {A W : World} (h : Books B r A) (hk : KeepsFrom B A W) : Books B r W :=
  ⟨hk.same _ _ (Nat.le_refl _) h.mark rfl, hk.same _ _ (Nat.le_succ _) h.note rfl⟩

theorem range_next {n : Nat} {gf : Nat} {lb : Array Value} {T : List Row → World → Prop} {nxt : List Row → Option Row} (h1 : 1 ≤ n) (hseq : SeqNext (n - 1) gf lb T nxt)
    {g : Operand} {ps : Array Tmp} {assign body : Code} {Q : Exit → Act → World → Prop} {a : Act} {w : World} (hg : a.eval g = .func (.func gf) #[] lb) (eg : ∀ args w, (callFunc gf args).run Try.prog w = .ok (.enter gf args) w) (hps : ps.size = 2)
    (I : List Row → World → Prop) (Ix : Code → List Row → World → Prop) (hI : OwnFrom w.heap.size I) (hIx : ∀ c, OwnFrom w.heap.size (Ix c)) (hT : ∀ pre W, I pre W → T pre W) (h0 : I [] w) (a₁ : Row → Act)
    (hassign : ∀ (l : Nat) (x : Row) (W : World) (K : Act → World → Prop), K (a₁ x) W →
      assign.wpIn (Fence.wide.inRound l) (n - 1 - 1) Try.prog (Exit.then K (fun _ _ _ => False)) { tmps := (ps.zip (encs x)).foldl (fun t (p, v) => t.setIfInBounds p v) a.tmps, defers := [] } W)
    (hbody : ∀ (l : Nat) (pre : List Row) (x : Row) (W : World), I pre W → nxt pre = some x → body.wpIn (Fence.wide.inRound l) (n - 1 - 1) Try.prog (ownPostG w.heap.size (fun _ _ => True) I Ix (pre ++ [x]) W) (a₁ x) W)
    (hdone : ∀ (D : Nat) (xs : List Row) (W : World), w.heap.size ≤ D → nxt xs = none → I xs W → W.heap[D]? = some (.deferred (some [])) → Q .normal { a with defers := { target := .collected D, args := #[] } :: a.defers } W)
    (hstop : ∀ (D : Nat) (c : Code) (pre : List Row) (W : World), w.heap.size ≤ D → Ix c pre W → W.heap[D]? = some (.deferred (some [])) → c.wpIn Fence.wide n Try.prog Q { a with defers := { target := .collected D, args := #[] } :: a.defers } W) :
    (Code.rangeFunc g ps assign body).wpIn Fence.wide n Try.prog Q a w := by
  obtain ⟨B, hB⟩ : ∃ B, B = w.heap.size := ⟨_, rfl⟩
  refine wpIn_rangeFunc fun fn hfn => ?_
  -- the record, by its state
  obtain ⟨rc, hrc⟩ : ∃ rc : LoopState → Option Code → Loop, rc = fun st pe => ⟨st, pe, fn, a.tmps, ps, assign, body, w.heap.size⟩ := ⟨_, rfl⟩
  obtain ⟨W1, hW1⟩ : ∃ W1, (w.alloc (.deferred (some []))).alloc (.loop (rc .ready none)) = W1 := ⟨_, rfl⟩
  have hbk : Books B (rc .ready none) W1 := by
    subst hB hW1
    refine ⟨(Below.heap_alloc _ _ _ (by simp)).trans (World.alloc_heap_new w _), ?_⟩
    have := World.alloc_heap_new (w.alloc (.deferred (some []))) (.loop (rc .ready none))
    rwa [World.size_alloc] at this
  have hI1 : I [] W1 := by subst hW1; exact hI.alloc _ (hI.alloc _ h0)
  -- a turn of the record keeps what is said
  have putI : ∀ {s : List Row} {W : World} {r : Loop} (r' : Loop), I s W → Books B r W → I s (W.putObj (B + 1) (.loop r')) := fun r' hi hb => hI.putObj _ hi (by omega) hb.note rfl
  have putX : ∀ {c : Code} {s : List Row} {W : World} {r : Loop} (r' : Loop), Ix c s W → Books B r W → Ix c s (W.putObj (B + 1) (.loop r')) := fun r' hi hb => (hIx _).putObj _ hi (by omega) hb.note rfl
  refine ⟨B + 1, [⟨.collected B, #[]⟩], W1, ⟨.fn (.func gf) lb, #[.func (.yield (B + 1)) #[] #[]]⟩, W1, gf, #[.func (.yield (B + 1)) #[] #[]] ++ lb, W1, ?_, ?_, ?_, ?_, fun _ => h1, ?_⟩
  · subst hB hW1 hrc
    exact run_enterLoop_outer _ _ _ _ _
  · simp only [resolve, hg]
    simp [go_sem]
  · intro f' hf'
    trivial
  · simp [invoke, go_sem, eg]
  · refine (hseq (B + 1) (fun pre W => I pre W ∧ Books B (rc .ready none) W) (fun pre W => ∃ c, Ix c pre W ∧ Books B (rc .done (some c)) W) W1
      (fun pre X Y h hgr => ⟨hI pre X Y none h.1 hgr (fun r e => by cases e), h.2.grown hgr⟩) (fun pre W h => hT pre W h.1) ?_ ⟨hI1, hbk⟩).mono ?_
    · rintro pre x W ⟨hi, hb⟩ hx
      have hy := run_yield (P := Try.prog) (args := encs x) hb.note (by rw [hrc]; exact hps.symm)
      have hbeg := run_beginRound (P := Try.prog) hb.note (by rw [hrc])
      subst hrc
      have hb2 := hb.put ⟨.busy, none, fn, a.tmps, ps, assign, body, w.heap.size⟩
      have hi2 := putI ⟨.busy, none, fn, a.tmps, ps, assign, body, w.heap.size⟩ hi hb
      refine ⟨_, _, _, _, hy, roundIn_of_wpIn hfn (hassign _ x W _ ⟨_, hbeg, wpIn_mono (hbody _ pre x _ hi2 hx) ?_⟩)⟩
      -- how the round ends
      have hend : ∀ (jump : Option Code) (W3 : World), KeepsFrom B (W.putObj (B + 1) (.loop ⟨.busy, none, fn, a.tmps, ps, assign, body, w.heap.size⟩)) W3 →
          Books B ⟨.busy, none, fn, a.tmps, ps, assign, body, w.heap.size⟩ W3 ∧ (Instr.endRound (B + 1) jump).run Try.prog W3 = .ok (.bool jump.isNone) (W3.putObj (B + 1) (.loop ⟨if jump.isNone then .ready else .done, jump, fn, a.tmps, ps, assign, body, w.heap.size⟩)) := fun jump W3 hk => by
        have h3 := hb2.keep hk
        exact ⟨h3, run_endRound (P := Try.prog) jump h3.note⟩
      have kb : ∀ X Y, KeepsFrom w.heap.size X Y → KeepsFrom B X Y := fun X Y h => by rw [hB]; exact h
      rintro e a3 W3 hp
      cases e with
      | normal =>
        obtain ⟨h3, hr⟩ := hend none W3 (kb _ _ hp.1)
        exact ⟨_, _, hr, .inl ⟨rfl, putI _ hp.2.2 h3, h3.put _⟩⟩
      | ret =>
        obtain ⟨h3, hr⟩ := hend (some .ret) W3 (kb _ _ hp.1)
        exact ⟨_, _, hr, .inr ⟨rfl, .ret, putX _ hp.2 h3, h3.put _⟩⟩
      | exit id =>
        obtain ⟨h3, hr⟩ := hend (some (.exit id)) W3 (kb _ _ hp.1)
        exact ⟨_, _, hr, .inr ⟨rfl, .exit id, putX _ hp.2 h3, h3.put _⟩⟩
      | goto t =>
        obtain ⟨h3, hr⟩ := hend (some (.goto t)) W3 (kb _ _ hp.1)
        exact ⟨_, _, hr, .inr ⟨rfl, .goto t, putX _ hp.2 h3, h3.put _⟩⟩
      | panic ch => exact hp.elim
      | outgrown => exact hp.elim
    · subst hrc
      rintro e W2 ⟨⟨v, rfl⟩, ⟨xs, hS, hi, hb⟩ | ⟨pre, c, hi, hb⟩⟩
      · exact ⟨none, _, run_endLoop (P := Try.prog) hb.note (by simp), hdone B xs _ (Nat.le_of_eq hB.symm) hS (putI _ hi hb) (hb.put _).mark⟩
      · exact ⟨some c, _, run_endLoop (P := Try.prog) hb.note (by simp), hstop B c pre _ (Nat.le_of_eq hB.symm) (putX _ hi hb) (hb.put _).mark⟩

end Tb
end Go.Proofs.Ytoglklldclgcbaa
