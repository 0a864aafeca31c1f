/-
  Plain: rows in order as a map: what 'putT', 'dropT' leave at each key; the map of Go that holds the same.
-/
import Derived.Test.YtoglklldclgcbaaTbTwo
import Derived.Maps.OwnSet
namespace Go.Proofs.Ytoglklldclgcbaa
open Go.RowKit Sk
open Go.Maps (has size Tidy)
namespace Tb

section
variable {α : Type} {kf : α → ByteArray}
theorem seek_of {l : List α} (hs : Srt kf l) {x : α} (hx : x ∈ l) : seek kf (kf x) l = some x := by
  have hsp := lo_hi kf (kf x) l
  have h1 : x ∈ hi kf (kf x) l := by
    rw [← hsp] at hx
    rcases List.mem_append.1 hx with h | h
    · have := lo_below kf x h
      rw [kl_irrefl] at this; cases this
    · exact h
  unfold seek
  cases e : hi kf (kf x) l with
  | nil => rw [e] at h1; cases h1
  | cons z r =>
    rw [e] at h1
    rcases List.mem_cons.1 h1 with rfl | h2
    · simp
    · have hz := hi_head kf e
      have hl : Srt kf (z :: r) := by
        have := hs
        unfold Srt at this
        rw [← hsp, e] at this
        exact (List.pairwise_append.1 this).2.1
      have := (List.pairwise_cons.1 hl).1 x h2
      rw [this] at hz; cases hz
theorem seek_iff {l : List α} (hs : Srt kf l) {key : ByteArray} {x : α} : seek kf key l = some x ↔ x ∈ l ∧ kf x = key :=
  ⟨seek_mem kf, fun ⟨h, e⟩ => e ▸ seek_of hs h⟩
theorem seek_absent {l : List α} (hs : Srt kf l) {key : ByteArray} : seek kf key l = none ↔ ∀ x ∈ l, kf x ≠ key := by
  constructor
  · intro h x hx e
    rw [(seek_iff hs).2 ⟨hx, e⟩] at h; cases h
  · intro h
    cases e : seek kf key l with
    | none => rfl
    | some x => exact absurd (seek_mem kf e).2 (h x (seek_mem kf e).1)
end

/-- who is not at the key stands ahead of it or behind it -/
theorem others_some {key : ByteArray} {l r : List Row} {x : Row} (hs : Srt Row.k l) (h : seek Row.k key l = some x) (hr : hi Row.k key l = x :: r) (y : Row) :
    (y ∈ l ∧ y.k ≠ key) ↔ y ∈ lo Row.k key l ++ r := by
  have hsp := lo_hi Row.k key l
  have hk := (seek_mem Row.k h).2
  have h1 : ∀ z ∈ lo Row.k key l, z.k ≠ key := fun z hz e => by
    have := lo_below Row.k z hz
    rw [e, kl_irrefl] at this; cases this
  have h2 : ∀ z ∈ r, z.k ≠ key := fun z hz e => by
    have hl := hs
    unfold Srt at hl
    rw [← hsp, hr] at hl
    have := (List.pairwise_cons.1 (List.pairwise_append.1 hl).2.1).1 z hz
    rw [hk, e, kl_irrefl] at this; cases this
  rw [hr] at hsp
  generalize lo Row.k key l = p at *
  subst hsp
  constructor
  · rintro ⟨hy, hne⟩
    rcases List.mem_append.1 hy with h | h
    · exact List.mem_append_left _ h
    · rcases List.mem_cons.1 h with rfl | h
      · exact absurd hk hne
      · exact List.mem_append_right _ h
  · intro hy
    rcases List.mem_append.1 hy with h | h
    · exact ⟨List.mem_append_left _ h, h1 y h⟩
    · exact ⟨List.mem_append_right _ (List.mem_cons_of_mem _ h), h2 y h⟩

theorem kl_of_ne {a b : ByteArray} (h : kl a b = false) (hn : a ≠ b) : kl b a = true := by
  cases e : kl b a with
  | true => rfl
  | false => exact absurd (kl_total h e) hn
theorem rest_facts {l : List Row} (hs : Srt Row.k l) (key : ByteArray) : (∀ z ∈ restT key l, kl key z.k = true) ∧ (∀ y, (y ∈ l ∧ y.k ≠ key) ↔ y ∈ lo Row.k key l ++ restT key l) := by
  have hsp := lo_hi Row.k key l
  have hh := hi_above Row.k (key := key) hs
  cases h : seek Row.k key l with
  | some x =>
    obtain ⟨r, hr, hrest, hk⟩ := rest_some h
    rw [hrest]
    refine ⟨fun z hz => ?_, others_some hs h hr⟩
    have hl := hs
    unfold Srt at hl
    rw [← hsp, hr] at hl
    have := (List.pairwise_cons.1 (List.pairwise_append.1 hl).2.1).1 z hz
    rw [hk] at this
    exact this
  | none =>
    have hn := (seek_absent hs).1 h
    rw [rest_none h]
    refine ⟨fun z hz => kl_of_ne (hh z hz) (hn z (by rw [← hsp]; exact List.mem_append_right _ hz)), fun y => ?_⟩
    rw [hsp]
    exact ⟨fun h => h.1, fun h => ⟨h, hn y h⟩⟩
theorem srt_dropT {l : List Row} (hs : Srt Row.k l) (key : ByteArray) : Srt Row.k (dropT key l) := by
  have hsp := lo_hi Row.k key l
  have hl := lo_below Row.k (key := key) (l := l)
  obtain ⟨h1, _⟩ := rest_facts hs key
  have hsub : (restT key l).Sublist (hi Row.k key l) := by
    unfold restT
    cases hi Row.k key l with
    | nil => exact List.Sublist.refl _
    | cons z r =>
      show List.Sublist (if (z.k.toList == key.toList) = true then r else z :: r) _
      split
      · exact List.sublist_cons_self _ _
      · exact List.Sublist.refl _
  have hs2 := hs
  unfold Srt at hs2 ⊢
  rw [← hsp] at hs2
  obtain ⟨a, b, c⟩ := List.pairwise_append.1 hs2
  unfold dropT
  exact List.pairwise_append.2 ⟨a, b.sublist hsub, fun y hy z hz => c y hy z (hsub.subset hz)⟩
theorem srt_putT {l : List Row} (hs : Srt Row.k l) (key v : ByteArray) : Srt Row.k (putT key v l) := by
  have hl := lo_below Row.k (key := key) (l := l)
  obtain ⟨h1, _⟩ := rest_facts hs key
  have hd := srt_dropT hs key
  unfold Srt dropT at hd
  unfold Srt putT
  obtain ⟨a, b, c⟩ := List.pairwise_append.1 hd
  refine List.pairwise_append.2 ⟨a, List.pairwise_cons.2 ⟨fun z hz => h1 z hz, b⟩, fun y hy z hz => ?_⟩
  rcases List.mem_cons.1 hz with rfl | hz
  · exact hl y hy
  · exact c y hy z hz
theorem in_dropT {l : List Row} (hs : Srt Row.k l) {key : ByteArray} {y : Row} : y ∈ dropT key l ↔ y ∈ l ∧ y.k ≠ key := ((rest_facts hs key).2 y).symm
theorem in_putT {l : List Row} (hs : Srt Row.k l) {key v : ByteArray} {y : Row} : y ∈ putT key v l ↔ y = ⟨key, v⟩ ∨ (y ∈ l ∧ y.k ≠ key) := by
  rw [(rest_facts hs key).2 y]
  unfold putT
  simp only [List.mem_append, List.mem_cons]
  exact or_left_comm
theorem seek_putT_same {l : List Row} (hs : Srt Row.k l) (key v : ByteArray) : seek Row.k key (putT key v l) = some ⟨key, v⟩ :=
  (seek_iff (srt_putT hs key v)).2 ⟨(in_putT hs).2 (.inl rfl), rfl⟩
theorem seek_eq_of {l l' : List Row} (hs : Srt Row.k l) (hs' : Srt Row.k l') {key : ByteArray} (h : ∀ y : Row, y.k = key → (y ∈ l ↔ y ∈ l')) : seek Row.k key l = seek Row.k key l' := by
  cases e : seek Row.k key l with
  | some x =>
    obtain ⟨hx, hk⟩ := (seek_iff hs).1 e
    exact ((seek_iff hs').2 ⟨(h x hk).1 hx, hk⟩).symm
  | none =>
    refine ((seek_absent hs').2 fun x hx hk => ?_).symm
    exact (seek_absent hs).1 e x ((h x hk).2 hx) hk
theorem seek_putT_other {l : List Row} (hs : Srt Row.k l) {key k' : ByteArray} (hne : k' ≠ key) (v : ByteArray) : seek Row.k k' (putT key v l) = seek Row.k k' l :=
  seek_eq_of (srt_putT hs key v) hs fun y hy => by
    rw [in_putT hs]
    constructor
    · rintro (h | h)
      · subst h; exact absurd hy.symm hne
      · exact h.1
    · exact fun h => .inr ⟨h, fun e => hne (hy.symm.trans e)⟩
theorem seek_dropT_same {l : List Row} (hs : Srt Row.k l) (key : ByteArray) : seek Row.k key (dropT key l) = none :=
  (seek_absent (srt_dropT hs key)).2 fun _ hx => ((in_dropT hs).1 hx).2
theorem seek_dropT_other {l : List Row} (hs : Srt Row.k l) {key k' : ByteArray} (hne : k' ≠ key) : seek Row.k k' (dropT key l) = seek Row.k k' l :=
  seek_eq_of (srt_dropT hs key) hs fun y hy => by
    rw [in_dropT hs]
    exact ⟨fun h => h.1, fun h => ⟨h, fun e => hne (hy.symm.trans e)⟩⟩
theorem length_dropT {l : List Row} (key : ByteArray) : (dropT key l).length + (if (seek Row.k key l).isSome then 1 else 0) = l.length := by
  have hll := lohi_len key l
  unfold dropT
  cases h : seek Row.k key l with
  | some x =>
    obtain ⟨r, hr, hrest, _⟩ := rest_some h
    rw [hr] at hll
    rw [hrest]
    simp at hll ⊢
    omega
  | none => rw [rest_none h]; simp; omega
theorem length_putT {l : List Row} (key v : ByteArray) : (putT key v l).length = if (seek Row.k key l).isSome then l.length else l.length + 1 := by
  have hll := lohi_len key l
  unfold putT
  cases h : seek Row.k key l with
  | some x =>
    obtain ⟨r, hr, hrest, _⟩ := rest_some h
    rw [hr] at hll
    rw [hrest]
    simp at hll ⊢
    omega
  | none => rw [rest_none h]; simp; omega

/-- how a map's element reads: a row whose key is left out -/
def rowElem (v : Value) : Option (DataW Unit × List MemPlace) := match v with
  | .agg a => match a.toList with
    | [.string k, .string x] => if k = ⟨#[]⟩ then some (.lit (.string x.data.toList), []) else none
    | _ => none
  | _ => none
theorem rowElem_mk (x : ByteArray) : rowElem (.agg #[.string ⟨#[]⟩, .string x]) = some (.lit (.string x.data.toList), []) := by simp [rowElem]
theorem rowElem_inv {v : Value} {z : DataW Unit × List MemPlace} (h : rowElem v = some z) : ∃ x, v = .agg #[.string ⟨#[]⟩, .string x] ∧ z = (.lit (.string x.data.toList), []) := by
  unfold rowElem at h
  split at h
  · rename_i a
    split at h
    · rename_i k x hl
      split at h
      · rename_i hk
        subst hk
        injection h with h
        refine ⟨x, ?_, h.symm⟩
        cases a
        simp at hl
        rw [hl]
      · cases h
    · cases h
  · cases h
theorem data_inj {a b : ByteArray} (h : a.data.toList = b.data.toList) : a = b := by
  cases a with
  | mk x => cases b with
    | mk y =>
      congr 1
      exact Array.toList_inj.1 h
/-! ### the map of Go -/
abbrev klit (key : ByteArray) : Lit := .string key.data.toList
theorem klit_ne {a b : ByteArray} (h : a ≠ b) : klit a ≠ klit b := by
  intro e
  injection e with e
  apply h
  cases a; cases b
  simp at e
  rw [e]
/-- a datum is a map that holds what the rows hold -/
structure Alike (D : DataW Unit) (rows : List Row) : Prop where
  tidy : Tidy D
  has : ∀ key : ByteArray, Go.Maps.has D (klit key) = (seek Row.k key rows).isSome
  val : ∀ (key : ByteArray) (x : Row) (z : DataW Unit), seek Row.k key rows = some x → D.atKey (klit key) z = .lit (.string x.v.data.toList)
  size : Go.Maps.size D = rows.length
theorem Alike.nil : Alike (.map []) [] := ⟨Go.Maps.tidy_empty, fun _ => rfl, (fun _ _ _ h => by cases h), rfl⟩
theorem Alike.put {D : DataW Unit} {rows : List Row} (h : Alike D rows) (hs : Srt Row.k rows) (key v : ByteArray) : Alike (D.put (klit key) (.lit (.string v.data.toList))) (putT key v rows) := by
  have hk : WideAt.IsKeyLit (klit key) := trivial
  refine ⟨h.tidy.put hk _, fun k' => ?_, fun k' x z hx => ?_, ?_⟩
  · by_cases e : k' = key
    · subst e
      rw [Go.Maps.has_put_same h.tidy.isMap hk, seek_putT_same hs]; rfl
    · rw [Go.Maps.has_put_other (klit_ne e), seek_putT_other hs e, h.has]
  · by_cases e : k' = key
    · subst e
      rw [seek_putT_same hs] at hx
      injection hx with hx
      subst hx
      exact Go.Maps.atKey_put_same h.tidy.isMap hk _ _
    · rw [seek_putT_other hs e] at hx
      rw [Go.Maps.atKey_put_other (klit_ne e)]
      exact h.val _ _ _ hx
  · rw [Go.Maps.size_put h.tidy, h.has, length_putT, h.size]
theorem Alike.drop {D : DataW Unit} {rows : List Row} (h : Alike D rows) (hs : Srt Row.k rows) (key : ByteArray) : Alike (D.del (klit key)) (dropT key rows) := by
  refine ⟨h.tidy.del _, fun k' => ?_, fun k' x z hx => ?_, ?_⟩
  · by_cases e : k' = key
    · subst e
      rw [Go.Maps.has_del_same, seek_dropT_same hs]; rfl
    · rw [Go.Maps.has_del_other (klit_ne e), seek_dropT_other hs e, h.has]
  · by_cases e : k' = key
    · subst e
      rw [seek_dropT_same hs] at hx; cases hx
    · rw [seek_dropT_other hs e] at hx
      rw [Go.Maps.atKey_del_other (klit_ne e)]
      exact h.val _ _ _ hx
  · have h1 := Go.Maps.size_del h.tidy (k := klit key)
    have h2 := length_dropT (l := rows) key
    rw [h.has, h.size] at h1
    split at h1 <;> simp_all <;> omega

/-- the map in a block of the world holds what the rows hold -/
def Mp (w : World) (b n : Nat) (rows : List Row) : Prop := ∃ D : DataW Unit, w.ownsMap Try.prog 9 rowElem b n D ∧ Alike D rows
theorem Mp.blk {w : World} {b n : Nat} {rows : List Row} (h : Mp w b n rows) : kindOf w b = none := by
  obtain ⟨D, ⟨es, clock, hb, _⟩, _⟩ := h
  simp [kindOf, hb]
theorem Mp.lt {w : World} {b n : Nat} {rows : List Row} (h : Mp w b n rows) : b < w.heap.size := by
  obtain ⟨D, h, _⟩ := h
  exact h.lt
theorem Mp.keep {w w' : World} {b n : Nat} {rows : List Row} (h : Mp w b n rows) {S : Nat → Prop} (ht : Turns S w w') (hS : ¬ S b) : Mp w' b n rows := by
  obtain ⟨D, ⟨es, clock, hb, hr⟩, ha⟩ := h
  exact ⟨D, ⟨es, clock, ht.keeps hb hS, hr⟩, ha⟩
theorem Mp.turned {w w' : World} {b n : Nat} {rows : List Row} {ts : List TypeId} {B : Nat → Prop} (h : Mp w b n rows) (ht : Turns (Of w ts B) w w') : Mp w' b n rows :=
  h.keep ht (by rintro ⟨_, t, _, hk⟩; rw [h.blk] at hk; cases hk)
theorem Mp.below {w w' : World} {b n : Nat} {rows : List Row} (h : Mp w b n rows) (ht : Below w.heap.size w w') : Mp w' b n rows :=
  h.keep (S := fun _ => False) (Turns.of_below ht) fun h => h
theorem Mp.new (w : World) : Mp (w.alloc (.map #[] 0)) w.heap.size 0 [] := ⟨_, World.ownsMap_made _ _ _ _, Alike.nil⟩


theorem below_mapped {B b : Nat} {w w' : World} (hb : B ≤ b) (hB : B ≤ w.heap.size) (ht : w.grownBy w' (some b)) : Below B w w' :=
  (Turns.of_grown ht).to_below hB fun j e => by injection e with e; omega

/-- 'v, is := m[key]' over rows -/
theorem wpList_look_mp (w : World) {ops : Array Oper} {rest : List Oper} {o : Oper} {a : Act} {Q : Exit → Act → World → Prop}
    (hg : o.guard = none) (m x : Operand) (hop : o.op = Op.lookup 51 m x true) (b n : Nat) (rows : List Row)
    (hm : a.eval m = .map (some b)) (hown : Mp w b n rows) (key : ByteArray) (hkey : key.size ≤ maxLen) (hx : a.eval x = .string key)
    (hz : (zeroValue 39).run Try.prog w = .ok (.agg #[.string ⟨#[]⟩, .string ⟨#[]⟩]) w)
    (hK : wpList Try.prog ops Q rest (a.put o.dst (.tuple #[.agg #[.string ⟨#[]⟩, .string (getV key rows)], .bool (getB key rows)])) w) :
    wpList Try.prog ops Q (o :: rest) a w := by
  obtain ⟨D, h1, h2⟩ := hown
  refine wpList_lookup_own_ok w hg m x 51 hop 9 39 (Go.Maps.string_keyed Try.underlying9) Try.underlying51 rowElem hz _ _ (rowElem_mk ⟨#[]⟩) b n D hm h1 _ (klit key) hx (Go.WideMaps.keyOf_string_mk (P := Try.prog) Try.underlying9 hkey) ?_
  intro v ps hv
  obtain ⟨c, rfl, hc⟩ := rowElem_inv hv
  have e1 : Go.Maps.has D (klit key) = getB key rows := h2.has key
  have e2 : c = getV key rows := by
    unfold getV
    injection hc with hc _
    cases hs : seek Row.k key rows with
    | some y =>
      rw [h2.val key y _ hs] at hc
      injection hc with hc
      injection hc with hc
      exact (data_inj hc).symm
    | none =>
      have : Go.Maps.has D (klit key) = false := by rw [h2.has, hs]; rfl
      rw [Go.Maps.atKey_of_not_has this] at hc
      injection hc with hc
      injection hc with hc
      exact (data_inj hc).symm
  rw [e1, e2]
  exact hK
/-- 'len(m)' over rows -/
theorem wpList_len_mp (w : World) {ops : Array Oper} {rest : List Oper} {o : Oper} {a : Act} {Q : Exit → Act → World → Prop}
    (hg : o.guard = none) (m : Operand) (hop : o.op = Op.call { callee := Callee.builtin Builtin.len, args := #[m], argTypes := #[51] }) (b n : Nat) (rows : List Row)
    (hm : a.eval m = .map (some b)) (hown : Mp w b n rows) (hK : wpList Try.prog ops Q rest (a.put o.dst (.int .i64 (rows.length : Nat))) w) :
    wpList Try.prog ops Q (o :: rest) a w := by
  obtain ⟨D, h1, h2⟩ := hown
  refine wpList_len_own w hg m 51 hop 9 39 Try.underlying51 _ b n D hm h1 ?_
  rw [h2.size]
  exact hK
theorem Mp.mono {w : World} {b n n' : Nat} {rows : List Row} (h : Mp w b n rows) (hn : n ≤ n') : Mp w b n' rows := by
  obtain ⟨D, h1, h2⟩ := h
  exact ⟨D, h1.mono hn, h2⟩

end Tb
end Go.Proofs.Ytoglklldclgcbaa
