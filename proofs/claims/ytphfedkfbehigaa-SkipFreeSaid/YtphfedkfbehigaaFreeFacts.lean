/-
  Plain: on how many steps keys stand changes nothing but steps (SkipFree).
-/
import Derived.Test.YtphfedkfbehigaaBackWalk
namespace Go.Proofs.Ytphfedkfbehigaa
open Go.RowKit Sk
namespace St

/-- a row without its steps -/
def kv (x : Row) : ByteArray × Int := (x.k, x.v)
abbrev kv' (l : List Row) : List (ByteArray × Int) := l.map kv
theorem kv_seek (key : ByteArray) (l : List Row) : (seek Rf.It.k key l).map kv = seek Prod.fst key (kv' l) := by
  unfold kv'; rw [seek_map]; rfl
theorem kv_hi (key : ByteArray) (l : List Row) : kv' (hi Rf.It.k key l) = hi Prod.fst key (kv' l) := by
  unfold kv'; rw [hi_map]; rfl
theorem kv_lo (key : ByteArray) (l : List Row) : kv' (lo Rf.It.k key l) = lo Prod.fst key (kv' l) := by
  unfold kv'; rw [lo_map]; rfl
section
variable {l r : List Row}
theorem kv_putR (h : kv' l = kv' r) (key : ByteArray) (v : Int) (s t : Nat) : kv' (putR key v s l) = kv' (putR key v t r) := by
  have e1 := kv_seek key l
  rw [h, ← kv_seek key r] at e1
  have e2 := kv_lo key l
  rw [h, ← kv_lo key r] at e2
  have e3 := kv_hi key l
  rw [h, ← kv_hi key r] at e3
  cases hl : seek Rf.It.k key l with
  | some x =>
    obtain ⟨a, ha, _⟩ := seek_some Rf.It.k hl
    rw [hl] at e1
    cases hr : seek Rf.It.k key r with
    | none => rw [hr] at e1; cases e1
    | some y =>
      obtain ⟨b, hb, _⟩ := seek_some Rf.It.k hr
      rw [putR_some hl ha, putR_some hr hb]
      rw [ha, hb] at e3
      simp only [kv', List.map_cons, List.cons.injEq] at e3
      simp only [kv', List.map_append, List.map_cons]
      rw [show List.map kv (lo Rf.It.k key l) = _ from e2, e3.2]
      rfl
  | none =>
    rw [hl] at e1
    cases hr : seek Rf.It.k key r with
    | some y => rw [hr] at e1; cases e1
    | none =>
      rw [putR_none hl, putR_none hr]
      simp only [kv', List.map_append, List.map_cons]
      rw [show List.map kv (lo Rf.It.k key l) = _ from e2, show List.map kv (hi Rf.It.k key l) = _ from e3]
      rfl
theorem kv_dropR (h : kv' l = kv' r) (key : ByteArray) : kv' (dropR key l) = kv' (dropR key r) := by
  have e1 := kv_seek key l
  rw [h, ← kv_seek key r] at e1
  have e2 := kv_lo key l
  rw [h, ← kv_lo key r] at e2
  have e3 := kv_hi key l
  rw [h, ← kv_hi key r] at e3
  cases hl : seek Rf.It.k key l with
  | some x =>
    obtain ⟨a, ha, _⟩ := seek_some Rf.It.k hl
    rw [hl] at e1
    cases hr : seek Rf.It.k key r with
    | none => rw [hr] at e1; cases e1
    | some y =>
      obtain ⟨b, hb, _⟩ := seek_some Rf.It.k hr
      rw [dropR_some hl ha, dropR_some hr hb]
      rw [ha, hb] at e3
      simp only [kv', List.map_cons, List.cons.injEq] at e3
      simp only [kv', List.map_append]
      rw [show List.map kv (lo Rf.It.k key l) = _ from e2, e3.2]
  | none =>
    rw [hl] at e1
    cases hr : seek Rf.It.k key r with
    | some y => rw [hr] at e1; cases e1
    | none => rw [dropR_none hl, dropR_none hr, h]

/-- what two lists answer alike that hold the same values -/
structure Same (key : ByteArray) (l r : List Row) : Prop where
  gV : getV key l = getV key r
  gB : getB key l = getB key r
  fV : firstV key l = firstV key r
  fB : firstB key l = firstB key r
  lV : lastV key l = lastV key r
  lB : lastB key l = lastB key r
  len : l.length = r.length
  keys : l.map Rf.It.k = r.map Rf.It.k
theorem same_of (h : kv' l = kv' r) (key : ByteArray) : Same key l r := by
  have e1 := kv_seek key l
  rw [h, ← kv_seek key r] at e1
  have e2 := kv_lo key l
  rw [h, ← kv_lo key r] at e2
  have e3 := kv_hi key l
  rw [h, ← kv_hi key r] at e3
  have eL : kv' (lastL key l) = kv' (lastL key r) := by
    unfold lastL
    split
    · exact h
    · exact e2
  have aux : ∀ {a b : Option Row}, a.map kv = b.map kv → a.map Rf.It.k = b.map Rf.It.k ∧ a.map Rf.It.v = b.map Rf.It.v ∧ a.isSome = b.isSome := by
    intro a b e
    cases a <;> cases b <;> simp [kv] at e ⊢
    exact e
  have hd : ∀ {a b : List Row}, kv' a = kv' b → a.head?.map kv = b.head?.map kv ∧ a.getLast?.map kv = b.getLast?.map kv := by
    intro a b e
    have h1 := congrArg List.head? e
    have h2 := congrArg List.getLast? e
    simp only [kv', List.head?_map, List.getLast?_map] at h1 h2
    exact ⟨h1, h2⟩
  obtain ⟨s1, s2, s3⟩ := aux e1
  obtain ⟨f1, _, f3⟩ := aux (hd e3).1
  obtain ⟨l1, _, l3⟩ := aux (hd eL).2
  refine ⟨?_, s3, ?_, f3, ?_, l3, ?_, ?_⟩
  · unfold getV; rw [s2]
  · unfold firstV; rw [f1]
  · unfold lastV; rw [l1]
  · have := congrArg List.length h; simpa using this
  · have := congrArg (List.map Prod.fst) h
    simp only [kv', List.map_map] at this
    exact this
end

/-- a deed whose steps are others -/
def turn (n : Int) (d : Deed) : Deed := ⟨d.kind, d.key, d.value, d.steps % 16 + n % 16⟩
theorem kv_madeR {l r : List Row} (h : kv' l = kv' r) (n : Int) (d : Deed) : kv' (madeR d l) = kv' (madeR (turn n d) r) := by
  unfold madeR turn
  split
  · exact kv_dropR h _
  · exact kv_putR h _ _ _ _
theorem kv_mrows (n : Int) (ds : List Deed) (k : Nat) : kv' (mrows ds k) = kv' (mrows ((ds.take k).map (turn n)) k) := by
  unfold mrows
  rw [List.take_of_length_le (l := (ds.take k).map (turn n)) (by simp; omega)]
  generalize ds.take k = l
  have : ∀ (l : List Deed) (a b : List Row), kv' a = kv' b → kv' (l.foldl (fun r d => madeR d r) a) = kv' ((l.map (turn n)).foldl (fun r d => madeR d r) b) := by
    intro l
    induction l with
    | nil => intro a b h; exact h
    | cons d l ih => intro a b h; exact ih _ _ (kv_madeR h n d)
  exact this l [] [] rfl
theorem turn_fine (n : Int) {d : Deed} (h : d.Fine) : (turn n d).Fine := by
  refine ⟨h.kind, h.key, h.value, ?_⟩
  have h1 : 0 ≤ d.steps % 16 := Int.emod_nonneg _ (by omega)
  have h2 : d.steps % 16 < 16 := Int.emod_lt_of_pos _ (by omega)
  have h3 : 0 ≤ n % 16 := Int.emod_nonneg _ (by omega)
  have h4 : n % 16 < 16 := Int.emod_lt_of_pos _ (by omega)
  have e1 : IntKind.i64.min = -9223372036854775808 := by decide
  have e2 : IntKind.i64.max = 9223372036854775807 := by decide
  simp only [turn, Lit.wf, e1, e2, Bool.and_eq_true, decide_eq_true_eq]
  omega

end St
end Go.Proofs.Ytphfedkfbehigaa
