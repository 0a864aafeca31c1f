/-
  Plain: rows in order as a map: what 'putR', 'dropR' leave at each key; the map of Go that holds the same.
-/
import Derived.Test.YtphfedkfbehigaaState
import Derived.Maps.OwnSet
namespace Go.Proofs.Ytphfedkfbehigaa
open Go.RowKit Sk
open Go.Maps (has size Tidy)
namespace St

section
variable {α : Type} {kf : α → ByteArray}
theorem seek_of {l : List α} (hs : Srt kf l) {x : α} (hx : x ∈ l) : seek kf (kf x) l = some x := by
  have hsp := lo_hi kf (kf x) l
  have h1 : x ∈ hi kf (kf x) l := by
    rw [← hsp] at hx
    rcases List.mem_append.1 hx with h | h
    · have := lo_below kf x h
      rw [kl_irrefl] at this; cases this
    · exact h
  unfold seek
  cases e : hi kf (kf x) l with
  | nil => rw [e] at h1; cases h1
  | cons z r =>
    rw [e] at h1
    rcases List.mem_cons.1 h1 with rfl | h2
    · simp
    · have hz := hi_head kf e
      have hl : Srt kf (z :: r) := by
        have := hs
        unfold Srt at this
        rw [← hsp, e] at this
        exact (List.pairwise_append.1 this).2.1
      have := (List.pairwise_cons.1 hl).1 x h2
      rw [this] at hz; cases hz
theorem seek_iff {l : List α} (hs : Srt kf l) {key : ByteArray} {x : α} : seek kf key l = some x ↔ x ∈ l ∧ kf x = key :=
  ⟨seek_mem kf, fun ⟨h, e⟩ => e ▸ seek_of hs h⟩
theorem seek_absent {l : List α} (hs : Srt kf l) {key : ByteArray} : seek kf key l = none ↔ ∀ x ∈ l, kf x ≠ key := by
  constructor
  · intro h x hx e
    rw [(seek_iff hs).2 ⟨hx, e⟩] at h; cases h
  · intro h
    cases e : seek kf key l with
    | none => rfl
    | some x => exact absurd (seek_mem kf e).2 (h x (seek_mem kf e).1)
end

theorem putR_some {key : ByteArray} {v : Int} {s : Nat} {l r : List Row} {x : Row} (h : seek Rf.It.k key l = some x) (hr : hi Rf.It.k key l = x :: r) :
    putR key v s l = lo Rf.It.k key l ++ ⟨key, v, x.s⟩ :: r := by
  have hsp := lo_hi Rf.It.k key l
  have hk := (seek_mem Rf.It.k h).2
  rw [hr] at hsp
  unfold putR
  rw [h]
  show l.set _ _ = _
  generalize lo Rf.It.k key l = p at *
  rw [← hsp, List.set_append_right _ _ (Nat.le_refl _)]
  simp [hk]
theorem putR_none {key : ByteArray} {v : Int} {s : Nat} {l : List Row} (h : seek Rf.It.k key l = none) :
    putR key v s l = lo Rf.It.k key l ++ ⟨key, v, s⟩ :: hi Rf.It.k key l := by
  unfold putR; rw [h]
theorem dropR_some {key : ByteArray} {l r : List Row} {x : Row} (h : seek Rf.It.k key l = some x) (hr : hi Rf.It.k key l = x :: r) :
    dropR key l = lo Rf.It.k key l ++ r := by
  unfold dropR; rw [h, hr]; rfl
theorem dropR_none {key : ByteArray} {l : List Row} (h : seek Rf.It.k key l = none) : dropR key l = l := by
  unfold dropR; rw [h]

/-- who is not at the key stands ahead of it or behind it -/
theorem others_some {key : ByteArray} {l r : List Row} {x : Row} (hs : Srt Rf.It.k l) (h : seek Rf.It.k key l = some x) (hr : hi Rf.It.k key l = x :: r) (y : Row) :
    (y ∈ l ∧ y.k ≠ key) ↔ y ∈ lo Rf.It.k key l ++ r := by
  have hsp := lo_hi Rf.It.k key l
  have hk := (seek_mem Rf.It.k h).2
  have h1 : ∀ z ∈ lo Rf.It.k key l, z.k ≠ key := fun z hz e => by
    have := lo_below Rf.It.k z hz
    rw [e, kl_irrefl] at this; cases this
  have h2 : ∀ z ∈ r, z.k ≠ key := fun z hz e => by
    have hl := hs
    unfold Srt at hl
    rw [← hsp, hr] at hl
    have := (List.pairwise_cons.1 (List.pairwise_append.1 hl).2.1).1 z hz
    rw [hk, e, kl_irrefl] at this; cases this
  rw [hr] at hsp
  generalize lo Rf.It.k key l = p at *
  subst hsp
  constructor
  · rintro ⟨hy, hne⟩
    rcases List.mem_append.1 hy with h | h
    · exact List.mem_append_left _ h
    · rcases List.mem_cons.1 h with rfl | h
      · exact absurd hk hne
      · exact List.mem_append_right _ h
  · intro hy
    rcases List.mem_append.1 hy with h | h
    · exact ⟨List.mem_append_left _ h, h1 y h⟩
    · exact ⟨List.mem_append_right _ (List.mem_cons_of_mem _ h), h2 y h⟩

theorem srt_keys {l : List Row} : Srt Rf.It.k l ↔ (l.map Rf.It.k).Pairwise fun a b => kl a b = true := by
  unfold Srt; rw [List.pairwise_map]
theorem kl_of_ne {a b : ByteArray} (h : kl a b = false) (hn : a ≠ b) : kl b a = true := by
  cases e : kl b a with
  | true => rfl
  | false => exact absurd (kl_total h e) hn
theorem srt_putR {l : List Row} (hs : Srt Rf.It.k l) (key : ByteArray) (v : Int) (s : Nat) : Srt Rf.It.k (putR key v s l) := by
  have hsp := lo_hi Rf.It.k key l
  cases h : seek Rf.It.k key l with
  | some x =>
    obtain ⟨r, hr, hk⟩ := seek_some Rf.It.k h
    rw [putR_some h hr, srt_keys]
    rw [srt_keys, ← hsp, hr] at hs
    simpa [hk] using hs
  | none =>
    rw [putR_none h]
    have hl := lo_below Rf.It.k (key := key) (l := l)
    have hh := hi_above Rf.It.k (key := key) hs
    have hn := (seek_absent hs).1 h
    have hn' : ∀ z ∈ hi Rf.It.k key l, kl key z.k = true := fun z hz => kl_of_ne (hh z hz) (hn z (by rw [← hsp]; exact List.mem_append_right _ hz))
    unfold Srt at hs ⊢
    rw [← hsp] at hs
    obtain ⟨a, b, c⟩ := List.pairwise_append.1 hs
    refine List.pairwise_append.2 ⟨a, List.pairwise_cons.2 ⟨fun z hz => hn' z hz, b⟩, fun y hy z hz => ?_⟩
    rcases List.mem_cons.1 hz with rfl | hz
    · exact hl y hy
    · exact c y hy z hz
theorem srt_dropR {l : List Row} (hs : Srt Rf.It.k l) (key : ByteArray) : Srt Rf.It.k (dropR key l) := by
  have hsp := lo_hi Rf.It.k key l
  cases h : seek Rf.It.k key l with
  | some x =>
    obtain ⟨r, hr, hk⟩ := seek_some Rf.It.k h
    rw [dropR_some h hr]
    unfold Srt at hs ⊢
    rw [← hsp, hr] at hs
    obtain ⟨a, b, c⟩ := List.pairwise_append.1 hs
    exact List.pairwise_append.2 ⟨a, (List.pairwise_cons.1 b).2, fun y hy z hz => c y hy z (List.mem_cons_of_mem _ hz)⟩
  | none => rw [dropR_none h]; exact hs

/-- on how many steps a key stands behind its put -/
def stepOf (key : ByteArray) (s : Nat) (l : List Row) : Nat := match seek Rf.It.k key l with
  | some x => x.s
  | none => s
theorem mem_putR {l : List Row} (hs : Srt Rf.It.k l) {key : ByteArray} {v : Int} {s : Nat} {y : Row} :
    y ∈ putR key v s l ↔ y = ⟨key, v, stepOf key s l⟩ ∨ (y ∈ l ∧ y.k ≠ key) := by
  cases h : seek Rf.It.k key l with
  | some x =>
    obtain ⟨r, hr, hk⟩ := seek_some Rf.It.k h
    rw [others_some hs h hr, putR_some h hr]
    simp only [stepOf, h, List.mem_append, List.mem_cons]
    exact or_left_comm
  | none =>
    have hn := (seek_absent hs).1 h
    rw [putR_none h]
    simp only [stepOf, h]
    have e : (y ∈ l ∧ y.k ≠ key) ↔ y ∈ l := ⟨fun h => h.1, fun h => ⟨h, hn y h⟩⟩
    rw [e]
    conv => rhs; rhs; rw [← lo_hi Rf.It.k key l]
    simp only [List.mem_append, List.mem_cons]
    exact or_left_comm
theorem mem_dropR {l : List Row} (hs : Srt Rf.It.k l) {key : ByteArray} {y : Row} : y ∈ dropR key l ↔ y ∈ l ∧ y.k ≠ key := by
  cases h : seek Rf.It.k key l with
  | some x =>
    obtain ⟨r, hr, hk⟩ := seek_some Rf.It.k h
    rw [others_some hs h hr, dropR_some h hr]
  | none =>
    have hn := (seek_absent hs).1 h
    rw [dropR_none h]
    exact ⟨fun h => ⟨h, hn y h⟩, fun h => h.1⟩

theorem seek_putR_same {l : List Row} (hs : Srt Rf.It.k l) (key : ByteArray) (v : Int) (s : Nat) : seek Rf.It.k key (putR key v s l) = some ⟨key, v, stepOf key s l⟩ :=
  (seek_iff (srt_putR hs key v s)).2 ⟨(mem_putR hs).2 (.inl rfl), rfl⟩
theorem seek_eq_of {l l' : List Row} (hs : Srt Rf.It.k l) (hs' : Srt Rf.It.k l') {key : ByteArray} (h : ∀ y : Row, y.k = key → (y ∈ l ↔ y ∈ l')) : seek Rf.It.k key l = seek Rf.It.k key l' := by
  cases e : seek Rf.It.k key l with
  | some x =>
    obtain ⟨hx, hk⟩ := (seek_iff hs).1 e
    exact ((seek_iff hs').2 ⟨(h x hk).1 hx, hk⟩).symm
  | none =>
    refine ((seek_absent hs').2 fun x hx hk => ?_).symm
    exact (seek_absent hs).1 e x ((h x hk).2 hx) hk
theorem seek_putR_other {l : List Row} (hs : Srt Rf.It.k l) {key k' : ByteArray} (hne : k' ≠ key) (v : Int) (s : Nat) : seek Rf.It.k k' (putR key v s l) = seek Rf.It.k k' l :=
  seek_eq_of (srt_putR hs key v s) hs fun y hy => by
    rw [mem_putR hs]
    constructor
    · rintro (h | h)
      · subst h; exact absurd hy.symm hne
      · exact h.1
    · exact fun h => .inr ⟨h, fun e => hne (hy.symm.trans e)⟩
theorem seek_dropR_same {l : List Row} (hs : Srt Rf.It.k l) (key : ByteArray) : seek Rf.It.k key (dropR key l) = none :=
  (seek_absent (srt_dropR hs key)).2 fun _ hx => ((mem_dropR hs).1 hx).2
theorem seek_dropR_other {l : List Row} (hs : Srt Rf.It.k l) {key k' : ByteArray} (hne : k' ≠ key) : seek Rf.It.k k' (dropR key l) = seek Rf.It.k k' l :=
  seek_eq_of (srt_dropR hs key) hs fun y hy => by
    rw [mem_dropR hs]
    exact ⟨fun h => h.1, fun h => ⟨h, fun e => hne (hy.symm.trans e)⟩⟩
theorem length_putR {l : List Row} (key : ByteArray) (v : Int) (s : Nat) : (putR key v s l).length = if (seek Rf.It.k key l).isSome then l.length else l.length + 1 := by
  cases h : seek Rf.It.k key l with
  | some x => unfold putR; rw [h]; simp
  | none =>
    rw [putR_none h]
    have := congrArg List.length (lo_hi Rf.It.k key l)
    simp at this ⊢
    omega
theorem length_dropR {l : List Row} (key : ByteArray) : (dropR key l).length + (if (seek Rf.It.k key l).isSome then 1 else 0) = l.length := by
  cases h : seek Rf.It.k key l with
  | some x =>
    obtain ⟨r, hr, hk⟩ := seek_some Rf.It.k h
    rw [dropR_some h hr]
    have := congrArg List.length (lo_hi Rf.It.k key l)
    rw [hr] at this
    simp at this ⊢
    omega
  | none => rw [dropR_none h]; simp

/-! ### the map of Go -/
abbrev klit (key : ByteArray) : Lit := .string key.data.toList
theorem klit_ne {a b : ByteArray} (h : a ≠ b) : klit a ≠ klit b := by
  intro e
  injection e with e
  apply h
  cases a; cases b
  simp at e
  rw [e]
/-- a datum is a map that holds what the rows hold -/
structure Alike (D : DataW Unit) (rows : List Row) : Prop where
  tidy : Tidy D
  has : ∀ key : ByteArray, Go.Maps.has D (klit key) = (seek Rf.It.k key rows).isSome
  val : ∀ (key : ByteArray) (x : Row) (z : DataW Unit), seek Rf.It.k key rows = some x → D.atKey (klit key) z = .lit (.int .i64 x.v)
  size : Go.Maps.size D = rows.length
theorem Alike.nil : Alike (.map []) [] := ⟨Go.Maps.tidy_empty, fun _ => rfl, (fun _ _ _ h => by cases h), rfl⟩
theorem Alike.put {D : DataW Unit} {rows : List Row} (h : Alike D rows) (hs : Srt Rf.It.k rows) (key : ByteArray) (v : Int) (s : Nat) : Alike (D.put (klit key) (.lit (.int .i64 v))) (putR key v s rows) := by
  have hk : WideAt.IsKeyLit (klit key) := trivial
  refine ⟨h.tidy.put hk _, fun k' => ?_, fun k' x z hx => ?_, ?_⟩
  · by_cases e : k' = key
    · subst e
      rw [Go.Maps.has_put_same h.tidy.isMap hk, seek_putR_same hs]; rfl
    · rw [Go.Maps.has_put_other (klit_ne e), seek_putR_other hs e, h.has]
  · by_cases e : k' = key
    · subst e
      rw [seek_putR_same hs] at hx
      injection hx with hx
      subst hx
      exact Go.Maps.atKey_put_same h.tidy.isMap hk _ _
    · rw [seek_putR_other hs e] at hx
      rw [Go.Maps.atKey_put_other (klit_ne e)]
      exact h.val _ _ _ hx
  · rw [Go.Maps.size_put h.tidy, h.has, length_putR, h.size]
theorem Alike.drop {D : DataW Unit} {rows : List Row} (h : Alike D rows) (hs : Srt Rf.It.k rows) (key : ByteArray) : Alike (D.del (klit key)) (dropR key rows) := by
  refine ⟨h.tidy.del _, fun k' => ?_, fun k' x z hx => ?_, ?_⟩
  · by_cases e : k' = key
    · subst e
      rw [Go.Maps.has_del_same, seek_dropR_same hs]; rfl
    · rw [Go.Maps.has_del_other (klit_ne e), seek_dropR_other hs e, h.has]
  · by_cases e : k' = key
    · subst e
      rw [seek_dropR_same hs] at hx; cases hx
    · rw [seek_dropR_other hs e] at hx
      rw [Go.Maps.atKey_del_other (klit_ne e)]
      exact h.val _ _ _ hx
  · have h1 := Go.Maps.size_del h.tidy (k := klit key)
    have h2 := length_dropR (l := rows) key
    rw [h.has, h.size] at h1
    split at h1 <;> simp_all <;> omega

/-- the map in a block of the world holds what the rows hold -/
def Mp (w : World) (b n : Nat) (rows : List Row) : Prop := ∃ D : DataW Unit, w.ownsMap Try.prog 9 (plainElem Try.prog 3) b n D ∧ Alike D rows
theorem Mp.blk {w : World} {b n : Nat} {rows : List Row} (h : Mp w b n rows) : kindOf w b = none := by
  obtain ⟨D, ⟨es, clock, hb, _⟩, _⟩ := h
  simp [kindOf, hb]
theorem Mp.lt {w : World} {b n : Nat} {rows : List Row} (h : Mp w b n rows) : b < w.heap.size := by
  obtain ⟨D, h, _⟩ := h
  exact h.lt
theorem Mp.keep {w w' : World} {b n : Nat} {rows : List Row} (h : Mp w b n rows) {S : Nat → Prop} (ht : Turns S w w') (hS : ¬ S b) : Mp w' b n rows := by
  obtain ⟨D, ⟨es, clock, hb, hr⟩, ha⟩ := h
  exact ⟨D, ⟨es, clock, ht.keeps hb hS, hr⟩, ha⟩
theorem Mp.turned {w w' : World} {b n : Nat} {rows : List Row} {ts : List TypeId} {B : Nat} (h : Mp w b n rows) (ht : Turns (Of w ts B) w w') : Mp w' b n rows :=
  h.keep ht (by rintro ⟨_, t, _, hk⟩; rw [h.blk] at hk; cases hk)
theorem Mp.below {w w' : World} {b n : Nat} {rows : List Row} (h : Mp w b n rows) (ht : Below w.heap.size w w') : Mp w' b n rows :=
  h.keep (S := fun _ => False) (Turns.of_below ht) fun h => h
theorem Mp.new (w : World) : Mp (w.alloc (.map #[] 0)) w.heap.size 0 [] := ⟨_, World.ownsMap_made _ _ _ _, Alike.nil⟩

/-- behind a store into the map, or a delete: the list lies as it lay -/
theorem Sk.mapped {B L b : Nat} {w w' : World} {rows : List Row} (h : Sk B w L rows) (hk : kindOf w b = none) (ht : w.grownBy w' (some b)) : Sk B w' L rows :=
  h.keep (Turns.of_grown ht) fun j ⟨_, t, _, hj⟩ e => by
    injection e with e
    subst e
    rw [hk] at hj; cases hj
theorem below_mapped {B b : Nat} {w w' : World} (hb : B ≤ b) (hB : B ≤ w.heap.size) (ht : w.grownBy w' (some b)) : Below B w w' :=
  (Turns.of_grown ht).to_below hB fun j e => by injection e with e; omega
theorem kind_map {w : World} {P : Program} {k : TypeId} {R : Value → Option (DataW Unit × List MemPlace)} {b n : Nat} {D : DataW Unit} (h : w.ownsMap P k R b n D) : kindOf w b = none := by
  obtain ⟨es, clock, hb, _⟩ := h
  simp [kindOf, hb]

end St
end Go.Proofs.Ytphfedkfbehigaa
