/-
  How a skip list lies in memory: nodes as blocks, each way as a cell; plain facts on these words. No walk.
-/
import Derived.Test.YtoglklldclgcbaaSkPlain
import Derived.LaidEqlPtr
import Derived.Deep.Draws
namespace Go.Proofs.Ytoglklldclgcbaa
open Go.RowKit
namespace Sk

def ptr (o : Option Nat) : Value := .pointer (o.map fun b => ⟨b, 0, none⟩)
@[simp] theorem ptr_none : ptr none = .pointer none := rfl
@[simp] theorem ptr_some (b : Nat) : ptr (some b) = .pointer (some ⟨b, 0, none⟩) := rfl

/-- sixteen pointers -/
def ways (f : Nat → Option Nat) : List Value := (List.range 16).map fun j => ptr (f j)
theorem ways_length (f : Nat → Option Nat) : (ways f).length = 16 := by simp [ways]
theorem ways_get (f : Nat → Option Nat) {j : Nat} (h : j < 16) : (ways f)[j]? = some (ptr (f j)) := by simp [ways, h]
theorem ways_set (f : Nat → Option Nat) (j : Nat) (o : Option Nat) : (ways f).set j (ptr o) = ways (fun k => if k = j then o else f k) := by
  apply List.ext_getElem?
  intro k
  by_cases hk : k < 16
  · rw [ways_get _ hk, List.getElem?_set]
    by_cases h : j = k
    · subst h; simp [ways_length, hk]
    · rw [if_neg h, ways_get _ hk, if_neg (fun e => h e.symm)]
  · rw [List.getElem?_eq_none (by simp [ways_length]; omega), List.getElem?_eq_none (by simp [ways_length]; omega)]
theorem ways_congr {f g : Nat → Option Nat} (h : ∀ j, j < 16 → f j = g j) : ways f = ways g := by
  apply List.ext_getElem?
  intro k
  by_cases hk : k < 16
  · rw [ways_get _ hk, ways_get _ hk, h k hk]
  · rw [List.getElem?_eq_none (by simp [ways_length]; omega), List.getElem?_eq_none (by simp [ways_length]; omega)]

def nodeCells (x : It) (f : Nat → Option Nat) : Array Value := (.string x.k :: x.v :: .int .i64 x.s :: ways f).toArray
theorem node_key (x : It) (f : Nat → Option Nat) : (nodeCells x f)[0]? = some (.string x.k) := by simp [nodeCells]
theorem node_val (x : It) (f : Nat → Option Nat) : (nodeCells x f)[1]? = some x.v := by simp [nodeCells]
theorem node_steps (x : It) (f : Nat → Option Nat) : (nodeCells x f)[2]? = some (.int .i64 x.s) := by simp [nodeCells]
theorem node_way (x : It) (f : Nat → Option Nat) {j : Nat} (h : j < 16) : (nodeCells x f)[3 + j]? = some (ptr (f j)) := by
  rw [Nat.add_comm]
  simp [nodeCells, ways_get f h]
theorem node_setWay (x : It) (f : Nat → Option Nat) (j : Nat) (o : Option Nat) : (nodeCells x f).setIfInBounds (3 + j) (ptr o) = nodeCells x (fun k => if k = j then o else f k) := by
  rw [Nat.add_comm]
  simp [nodeCells, ← ways_set]
theorem node_setVal (x : It) (f : Nat → Option Nat) (v : Value) : (nodeCells x f).setIfInBounds 1 v = nodeCells { x with v := v } f := by simp [nodeCells]
theorem node_congr (x : It) {f g : Nat → Option Nat} (h : ∀ j, j < 16 → f j = g j) : nodeCells x f = nodeCells x g := by simp [nodeCells, ways_congr h]

def Blk (w : World) (g : Nat) (t : TypeId) (cs : Array Value) : Prop := w.heap[g]? = some (.cells cs t (0, 0))
theorem Blk.lt {w : World} {g : Nat} {t : TypeId} {cs : Array Value} (h : Blk w g t cs) : g < w.heap.size := (Array.getElem?_eq_some_iff.1 h).1
theorem Blk.cell {w : World} {g : Nat} {t : TypeId} {cs : Array Value} (h : Blk w g t cs) (i : Nat) : w.cell? ⟨g, i, none⟩ = cs[i]? := cell_of_row w g i cs t (0, 0) h
theorem Blk.free {w : World} {g : Nat} {t : TypeId} {cs : Array Value} (h : Blk w g t cs) (i : Nat) : w.frozen? ⟨g, i, none⟩ = false := frozen_of_row w g i cs t h
theorem Blk.new (w : World) (t : TypeId) (cs : Array Value) : Blk (w.alloc (.cells cs t)) w.heap.size t cs := heap_alloc_new w _
theorem Blk.alloc {w : World} {g : Nat} {t : TypeId} {cs : Array Value} (h : Blk w g t cs) (o : Obj) : Blk (w.alloc o) g t cs := (Below.heap_alloc w o g h.lt).trans h
theorem Blk.set_ {w : World} {g : Nat} {t : TypeId} {cs : Array Value} (h : Blk w g t cs) (i : Nat) (u : Value) : Blk (w.setCell ⟨g, i, none⟩ u) g t (cs.setIfInBounds i u) :=
  heap_setCell_same w g i cs t u h
theorem Blk.far {w : World} {g : Nat} {t : TypeId} {cs : Array Value} (h : Blk w g t cs) {p : Addr} (hp : g ≠ p.block) (u : Value) : Blk (w.setCell p u) g t cs :=
  (heap_setCell_other w p g u hp).trans h
theorem Blk.below {w w' : World} {B g : Nat} {t : TypeId} {cs : Array Value} (h : Blk w g t cs) (hb : Below B w w') (hg : g < B) : Blk w' g t cs := (hb.block g hg).trans h

/-- the nodes lie in memory, each way as told by f -/
def Mem (T : TypeId) (w : World) (l : List Nd) (f : Nat → Nat → Option Nat) : Prop := ∀ x ∈ l, Blk w x.b T (nodeCells x.i (f x.b))

section
variable {T : TypeId} {w w' : World} {l : List Nd} {f g : Nat → Nat → Option Nat}
theorem Mem.key (h : Mem T w l f) {x : Nd} (hx : x ∈ l) : w.cell? ⟨x.b, 0, none⟩ = some (.string x.i.k) := ((h x hx).cell 0).trans (node_key _ _)
theorem Mem.val (h : Mem T w l f) {x : Nd} (hx : x ∈ l) : w.cell? ⟨x.b, 1, none⟩ = some x.i.v := ((h x hx).cell 1).trans (node_val _ _)
theorem Mem.steps (h : Mem T w l f) {x : Nd} (hx : x ∈ l) : w.cell? ⟨x.b, 2, none⟩ = some (.int .i64 x.i.s) := ((h x hx).cell 2).trans (node_steps _ _)
theorem Mem.way (h : Mem T w l f) {x : Nd} (hx : x ∈ l) {j : Nat} (hj : j < 16) : w.cell? ⟨x.b, 3 + j, none⟩ = some (ptr (f x.b j)) := ((h x hx).cell (3 + j)).trans (node_way _ _ hj)
theorem Mem.free (h : Mem T w l f) {x : Nd} (hx : x ∈ l) (i : Nat) : w.frozen? ⟨x.b, i, none⟩ = false := (h x hx).free i
theorem Mem.congr (h : Mem T w l f) (hfg : ∀ x ∈ l, ∀ j, j < 16 → f x.b j = g x.b j) : Mem T w l g := fun x hx => by
  rw [← node_congr x.i (hfg x hx)]; exact h x hx
theorem Mem.keep (h : Mem T w l f) (hk : ∀ x ∈ l, w'.heap[x.b]? = w.heap[x.b]?) : Mem T w' l f := fun x hx => (hk x hx).trans (h x hx)
theorem Mem.lt (h : Mem T w l f) {x : Nd} (hx : x ∈ l) : x.b < w.heap.size := (h x hx).lt
theorem Mem.below (h : Mem T w l f) (hb : Below w.heap.size w w') : Mem T w' l f := h.keep fun _ hx => hb.block _ (h.lt hx)
theorem inj_of_nodup {l : List Nd} (hnd : (blocks l).Nodup) {x y : Nd} (hx : x ∈ l) (hy : y ∈ l) (e : x.b = y.b) : x = y := by
  induction l with
  | nil => cases hx
  | cons z l ih =>
    simp only [blocks_cons, List.nodup_cons] at hnd
    rcases List.mem_cons.1 hx with hx0 | hx1 <;> rcases List.mem_cons.1 hy with hy0 | hy1
    · rw [hx0, hy0]
    · subst hx0; exact absurd (e ▸ mem_blocks hy1) hnd.1
    · subst hy0; exact absurd (e ▸ mem_blocks hx1) hnd.1
    · exact ih hnd.2 hx1 hy1
/-- a way is laid anew -/
theorem Mem.setWay (h : Mem T w l f) (hnd : (blocks l).Nodup) {a : Nd} (ha : a ∈ l) (j : Nat) (o : Option Nat) :
    Mem T (w.setCell ⟨a.b, 3 + j, none⟩ (ptr o)) l (fun b k => if b = a.b ∧ k = j then o else f b k) := fun x hx => by
  by_cases e : x.b = a.b
  · have hxa := inj_of_nodup hnd hx ha e
    subst hxa
    have := (h x hx).set_ (3 + j) (ptr o)
    rw [node_setWay] at this
    simpa using this
  · have := (h x hx).far (p := ⟨a.b, 3 + j, none⟩) e (ptr o)
    simpa [e] using this
theorem Mem.far (h : Mem T w l f) {p : Addr} (hp : p.block ∉ blocks l) (u : Value) : Mem T (w.setCell p u) l f := fun x hx =>
  (h x hx).far (fun e => hp (e ▸ mem_blocks hx)) u
theorem Mem.alloc (h : Mem T w l f) (o : Obj) : Mem T (w.alloc o) l f := fun x hx => (h x hx).alloc o
end

/-- two ways are laid anew: how 'Put' goes on by a step -/
theorem Mem.link {T : TypeId} {w : World} {pre post : List Nd} {N a : Nd} {i : Nat} (h : Mem T w (pre ++ N :: post) (fun b j => if j < i then Sk.way (pre ++ N :: post) b j else Sk.way (pre ++ post) b j))
    (hnd : (blocks (pre ++ N :: post)).Nodup) (ha : lastOn i pre = some a) (hi : i < N.i.s) :
    Mem T ((w.setCell ⟨N.b, 3 + i, none⟩ (ptr (firstOn i post))).setCell ⟨a.b, 3 + i, none⟩ (ptr (some N.b))) (pre ++ N :: post)
      (fun b j => if j < i + 1 then Sk.way (pre ++ N :: post) b j else Sk.way (pre ++ post) b j) := by
  have hNm : N ∈ pre ++ N :: post := by simp
  have ham : a ∈ pre ++ N :: post := List.mem_append_left _ (lastOn_mem ha)
  have hndp : (blocks pre).Nodup := by rw [blocks_append] at hnd; exact (List.nodup_append.1 hnd).1
  have hNp : N.b ∉ blocks pre := by
    rw [blocks_append] at hnd
    exact fun hm => (List.nodup_append.1 hnd).2.2 _ hm _ (by simp) rfl
  refine ((h.setWay hnd hNm i (firstOn i post)).setWay hnd ham i (some N.b)).congr ?_
  intro x hx j hj
  have hwi := way_insert (pre := pre) (post := post) (N := N) hNp hndp x.b j
  by_cases hji : j = i
  · subst hji
    rw [if_pos (show j < j + 1 from by omega), hwi, ha]
    by_cases hxa : x.b = a.b
    · have hane : a.b ≠ N.b := fun e => hNp (e ▸ mem_blocks (lastOn_mem ha))
      simp [hxa, hane, hi]
    · by_cases hxN : x.b = N.b
      · have hane : ¬ N.b = a.b := fun e => hNp (e ▸ mem_blocks (lastOn_mem ha))
        simp [hxN, hane, hi]
      · simp [hxa, hxN, Ne.symm hxa]
  · have e : (j < i + 1) ↔ (j < i) := by omega
    simp [hji, e]

/-- how it stands when all steps are done -/
theorem Mem.linked {T : TypeId} {w : World} {pre post : List Nd} {N : Nd} (h : Mem T w (pre ++ N :: post) (fun b j => if j < N.i.s then Sk.way (pre ++ N :: post) b j else Sk.way (pre ++ post) b j))
    (hnd : (blocks (pre ++ N :: post)).Nodup) : Mem T w (pre ++ N :: post) (Sk.way (pre ++ N :: post)) := by
  refine h.congr fun x hx j hj => ?_
  by_cases hj2 : j < N.i.s
  · rw [if_pos hj2]
  · rw [if_neg hj2]
    have hndp : (blocks pre).Nodup := by rw [blocks_append] at hnd; exact (List.nodup_append.1 hnd).1
    have hNp : N.b ∉ blocks pre := by
      rw [blocks_append] at hnd
      exact fun hm => (List.nodup_append.1 hnd).2.2 _ hm _ (by simp) rfl
    have hNo : N.b ∉ blocks (pre ++ post) := by
      rw [blocks_append, List.mem_append, not_or]
      refine ⟨hNp, ?_⟩
      rw [blocks_append, blocks_cons] at hnd
      exact fun hm => (List.nodup_cons.1 (List.nodup_append.1 hnd).2.1).1 hm
    rw [way_insert hNp hndp]
    by_cases hxN : x.b = N.b
    · rw [if_pos hxN, if_neg hj2, hxN, way_out hNo]
    · rw [if_neg hxN, if_neg (fun e => hj2 e.1)]

theorem notin_of_mid {pre post : List Nd} {N : Nd} (hnd : (blocks (pre ++ N :: post)).Nodup) : N.b ∉ blocks (pre ++ post) ∧ (blocks (pre ++ post)).Nodup := by
  have e : blocks (pre ++ N :: post) = blocks pre ++ N.b :: blocks post := by simp
  rw [e] at hnd
  have := (List.perm_middle.nodup_iff).1 hnd
  rw [blocks_append]
  exact List.nodup_cons.1 this

/-- 'Drop' goes on by a step -/
theorem Mem.unlink {T : TypeId} {w : World} {pre post : List Nd} {N a : Nd} {i : Nat} (h : Mem T w (pre ++ post) (fun b j => if j < i then Sk.way (pre ++ post) b j else Sk.way (pre ++ N :: post) b j))
    (hnd : (blocks (pre ++ N :: post)).Nodup) (ha : lastOn i pre = some a) :
    Mem T (w.setCell ⟨a.b, 3 + i, none⟩ (ptr (firstOn i post))) (pre ++ post)
      (fun b j => if j < i + 1 then Sk.way (pre ++ post) b j else Sk.way (pre ++ N :: post) b j) := by
  obtain ⟨hNo, hnd'⟩ := notin_of_mid hnd
  have ham : a ∈ pre ++ post := List.mem_append_left _ (lastOn_mem ha)
  have hndp : (blocks pre).Nodup := by rw [blocks_append] at hnd; exact (List.nodup_append.1 hnd).1
  have hNp : N.b ∉ blocks pre := fun hm => hNo (by rw [blocks_append]; exact List.mem_append_left _ hm)
  refine (h.setWay hnd' ham i (firstOn i post)).congr ?_
  intro x hx j hj
  have hxN : x.b ≠ N.b := fun e => hNo (e ▸ mem_blocks hx)
  by_cases hji : j = i
  · subst hji
    rw [if_pos (show j < j + 1 from by omega)]
    by_cases hxa : x.b = a.b
    · simp only [hxa, and_self, if_true]
      exact (way_last hnd' ha).symm
    · have := way_insert (pre := pre) (post := post) (N := N) hNp hndp x.b j
      rw [if_neg hxN, ha] at this
      simp [hxa, this, Ne.symm hxa]
  · have e : (j < i + 1) ↔ (j < i) := by omega
    simp [hji, e]

/-- the same where nothing is to be laid anew -/
theorem Mem.unlink' {T : TypeId} {w : World} {pre post : List Nd} {N : Nd} {i : Nat} (h : Mem T w (pre ++ post) (fun b j => if j < i then Sk.way (pre ++ post) b j else Sk.way (pre ++ N :: post) b j))
    (hnd : (blocks (pre ++ N :: post)).Nodup) (hi : ¬ i < N.i.s) :
    Mem T w (pre ++ post) (fun b j => if j < i + 1 then Sk.way (pre ++ post) b j else Sk.way (pre ++ N :: post) b j) := by
  obtain ⟨hNo, _⟩ := notin_of_mid hnd
  have hndp : (blocks pre).Nodup := by rw [blocks_append] at hnd; exact (List.nodup_append.1 hnd).1
  have hNp : N.b ∉ blocks pre := fun hm => hNo (by rw [blocks_append]; exact List.mem_append_left _ hm)
  refine h.congr ?_
  intro x hx j hj
  have hxN : x.b ≠ N.b := fun e => hNo (e ▸ mem_blocks hx)
  by_cases hji : j = i
  · subst hji
    rw [if_pos (show j < j + 1 from by omega), if_neg (Nat.lt_irrefl j), way_insert hNp hndp, if_neg hxN, if_neg (fun e => hi e.1)]
  · have e : (j < i + 1) ↔ (j < i) := by omega
    simp [e]

/-- a list: its own block, the node ahead of all, the nodes in order -/
structure Is (T TL : TypeId) (w : World) (L : Nat) (H : Nd) (l : List Nd) : Prop where
  hdr : Blk w L TL #[.pointer (some ⟨H.b, 0, none⟩), .int .i64 l.length]
  mem : Mem T w (H :: l) (way (H :: l))
  nd : (blocks (H :: l)).Nodup
  srt : l.Pairwise fun x y => kl x.i.k y.i.k = true
  lv : ∀ x ∈ l, 1 ≤ x.i.s ∧ x.i.s ≤ 16
  hs : H.i.s = 16
  hk : H.i.k = ⟨#[]⟩

/-- all blocks of a list -/
def own (L : Nat) (H : Nd) (l : List Nd) : List Nat := L :: blocks (H :: l)

/-- what changes blocks of a kind alone, and makes new ones -/
structure Turns (S : Nat → Prop) (w w' : World) : Prop where
  os : w'.os = w.os
  tape : w'.tape = w.tape
  output : w'.output = w.output
  size : w.heap.size ≤ w'.heap.size
  block : ∀ k, k < w.heap.size → ¬ S k → w'.heap[k]? = w.heap[k]?

section
variable {S S' : Nat → Prop} {w w' w'' : World}
theorem Turns.refl (S : Nat → Prop) (w : World) : Turns S w w := ⟨rfl, rfl, rfl, Nat.le_refl _, fun _ _ _ => rfl⟩
theorem Turns.of_below (h : Below w.heap.size w w') : Turns S w w' := ⟨h.os, h.tape, h.output, h.size, fun k hk _ => h.block k hk⟩
theorem Turns.to_below {B : Nat} (h : Turns S w w') (hB : B ≤ w.heap.size) (hS : ∀ k, S k → B ≤ k) : Below B w w' :=
  ⟨h.os, h.tape, h.output, h.size, fun k hk => h.block k (by omega) (fun hs => by have := hS k hs; omega)⟩
theorem Turns.mono (h : Turns S w w') (hS : ∀ k, k < w.heap.size → S k → S' k) : Turns S' w w' := ⟨h.os, h.tape, h.output, h.size, fun k hk hs => h.block k hk (fun h => hs (hS k hk h))⟩
theorem Turns.trans (h : Turns S w w') (h' : Turns S' w' w'') (hS : ∀ k, k < w.heap.size → S' k → S k) : Turns S w w'' :=
  ⟨h'.os.trans h.os, h'.tape.trans h.tape, h'.output.trans h.output, Nat.le_trans h.size h'.size,
    fun k hk hs => (h'.block k (Nat.lt_of_lt_of_le hk h.size) (fun h => hs (hS k hk h))).trans (h.block k hk hs)⟩
theorem Turns.alloc (h : Turns S w w') (o : Obj) : Turns S w (w'.alloc o) :=
  ⟨h.os, h.tape, h.output, Nat.le_trans h.size (by simp), fun k hk hs => (Below.heap_alloc w' o k (Nat.lt_of_lt_of_le hk h.size)).trans (h.block k hk hs)⟩
theorem Turns.setCell (h : Turns S w w') {p : Addr} (hp : p.block < w.heap.size → S p.block) (u : Value) : Turns S w (w'.setCell p u) :=
  ⟨h.os, h.tape, h.output, by simpa [World.setCell] using h.size, fun k hk hs => (heap_setCell_other w' p k u (by
    rintro rfl
    exact hs (hp hk))).trans (h.block k hk hs)⟩
theorem Turns.drew (h : Turns S w w') : Turns S w w'.drew := ⟨h.os, h.tape, h.output, h.size, h.block⟩
theorem Turns.keeps (h : Turns S w w') {k : Nat} {o : Obj} (hb : w.heap[k]? = some o) (hs : ¬ S k) : w'.heap[k]? = some o :=
  (h.block k (Array.getElem?_eq_some_iff.1 hb).1 hs).trans hb
theorem Turns.blk (h : Turns S w w') {g : Nat} {t : TypeId} {cs : Array Value} (hb : Blk w g t cs) (hs : ¬ S g) : Blk w' g t cs := h.keeps hb hs
end

/-- a list lies where it lay, whatever else turns -/
theorem Is.keep {T TL : TypeId} {w w' : World} {L : Nat} {H : Nd} {l : List Nd} (h : Is T TL w L H l) {S : Nat → Prop} (ht : Turns S w w') (hS : ∀ k ∈ own L H l, ¬ S k) : Is T TL w' L H l :=
  ⟨ht.blk h.hdr (hS _ (by simp [own])), h.mem.keep fun x hx => ht.block _ (h.mem.lt hx) (hS _ (by unfold own; exact List.mem_cons_of_mem _ (mem_blocks hx))), h.nd, h.srt, h.lv, h.hs, h.hk⟩

theorem Is.own_lt {T TL : TypeId} {w : World} {L : Nat} {H : Nd} {l : List Nd} (h : Is T TL w L H l) {k : Nat} (hk : k ∈ own L H l) : k < w.heap.size := by
  unfold own at hk
  rcases List.mem_cons.1 hk with rfl | hk
  · exact h.hdr.lt
  · obtain ⟨x, hx, rfl⟩ := List.mem_map.1 hk
    exact h.mem.lt hx

theorem Is.front {T TL : TypeId} {w : World} {L : Nat} {H : Nd} {pre post : List Nd} (h : Is T TL w L H (pre ++ post)) :
    ∃ a, lastOn 0 (H :: pre) = some a ∧ w.cell? ⟨a.b, 3, none⟩ = some (ptr (post.head?.map Nd.b)) := by
  obtain ⟨a, ha⟩ := lastOn_head (j := 0) H (by rw [h.hs]; omega) pre
  have hmem : a ∈ H :: (pre ++ post) := by
    rw [← List.cons_append]; exact List.mem_append_left _ (lastOn_mem ha)
  refine ⟨a, ha, (h.mem.way (j := 0) hmem (by omega)).trans ?_⟩
  have hnd := h.nd
  rw [← List.cons_append] at hnd ⊢
  rw [way_last hnd ha]
  cases post with
  | nil => rfl
  | cons z r =>
    have hz := (h.lv z (by simp)).1
    simp only [firstOn]
    rw [if_pos (by omega)]
    rfl

theorem run_index_arr {P : Program} {t e e' : TypeId} {n : Nat} (ht : P.underlying t = some (.array n e)) (he : P.underlying e = some (.pointer e')) (hi : (P.info? e).map (·.size) = some 1)
    (cs : Array Value) (k : IntKind) (i : Nat) (hin : i < n) (v : Value) (hv : cs[i]? = some v) (w : World) : (Instr.index t (.agg cs) (.int k i)).run P w = .ok v w := by
  cases hq : P.info? e with
  | none => simp [hq] at hi
  | some i0 =>
    have hs : i0.size = 1 := by simpa [hq] using hi
    simp [Instr.index, asIntOf, run_underlying ht, part, isAgg, run_underlying he, sizeOf, typeInfo, hq, hs, hv, hin]

section
variable {P : Program}
theorem neq_ptr_same {tp te : TypeId} (b : Nat) (hp : P.underlying tp = some (.pointer te)) (hte : ((P.info? te).map (·.size)).isSome = true) (w : World) :
    (binOp .neq tp (.pointer (some ⟨b, 0, none⟩)) (.pointer (some ⟨b, 0, none⟩))).run P w = .ok (.bool false) w := by
  cases hq : P.info? te with
  | none => simp [hq] at hte
  | some j =>
    have h : ∀ d : Nat, (Op.equalIn (d + 1) tp (.pointer (some ⟨b, 0, none⟩)) (.pointer (some ⟨b, 0, none⟩))).run P w = .ok true w := fun d => by
      simp [Op.equalIn, run_underlying hp, sizeOf, typeInfo, hq, run_sameAddr_same]
    simp only [binOp]
    simp [Op.equal, Op.maxDepth, h 9999]
theorem neq_ptr_other {tp te : TypeId} {k : Nat} {a b : Nat} {ca cb : Array Value} {ta tb : TypeId} (hp : P.underlying tp = some (.pointer te)) (hte : (P.info? te).map (·.size) = some (k + 1))
    (hne : a ≠ b) (w : World) (ha : Blk w a ta ca) (hb : Blk w b tb cb) :
    (binOp .neq tp (.pointer (some ⟨a, 0, none⟩)) (.pointer (some ⟨b, 0, none⟩))).run P w = .ok (.bool true) w := by
  cases hq : P.info? te with
  | none => simp [hq] at hte
  | some j =>
    have hsz : j.size ≠ 0 := by simp [hq] at hte; omega
    have hne' : (⟨a, 0, none⟩ : Addr) ≠ ⟨b, 0, none⟩ := fun e => hne (by injection e)
    have h : ∀ d : Nat, (Op.equalIn (d + 1) tp (.pointer (some ⟨a, 0, none⟩)) (.pointer (some ⟨b, 0, none⟩))).run P w = .ok false w := fun d => by
      simp [Op.equalIn, run_underlying hp, sizeOf, typeInfo, hq, hsz, run_sameAddr_other w hne' ha hb]
    simp only [binOp]
    simp [Op.equal, Op.maxDepth, h 9999]
theorem eql_nil_ptr {tp te : TypeId} (b : Nat) (hp : P.underlying tp = some (.pointer te)) (w : World) :
    (binOp .eql tp (.pointer none) (.pointer (some ⟨b, 0, none⟩))).run P w = .ok (.bool false) w := by
  have h : ∀ d : Nat, (Op.equalIn (d + 1) tp (.pointer none) (.pointer (some ⟨b, 0, none⟩))).run P w = .ok false w := fun d => by
    simp [Op.equalIn, run_underlying hp]
  simp only [binOp]
  simp [Op.equal, Op.maxDepth, h 9999]
theorem eql_ptr_same {tp te : TypeId} (b : Nat) (hp : P.underlying tp = some (.pointer te)) (hte : ((P.info? te).map (·.size)).isSome = true) (w : World) :
    (binOp .eql tp (.pointer (some ⟨b, 0, none⟩)) (.pointer (some ⟨b, 0, none⟩))).run P w = .ok (.bool true) w := by
  cases hq : P.info? te with
  | none => simp [hq] at hte
  | some j => exact run_eql_ptr_same w _ hp hq
theorem eql_ptr_other {tp te : TypeId} {k : Nat} {a b : Nat} {ca cb : Array Value} {ta tb : TypeId} (hp : P.underlying tp = some (.pointer te)) (hte : (P.info? te).map (·.size) = some (k + 1))
    (hne : a ≠ b) (w : World) (ha : Blk w a ta ca) (hb : Blk w b tb cb) :
    (binOp .eql tp (.pointer (some ⟨a, 0, none⟩)) (.pointer (some ⟨b, 0, none⟩))).run P w = .ok (.bool false) w := by
  cases hq : P.info? te with
  | none => simp [hq] at hte
  | some j =>
    have hsz : j.size ≠ 0 := by simp [hq] at hte; omega
    exact run_eql_ptr_other w hp hq hsz (fun e => hne (by injection e)) ha hb
end
section
variable {P : Program}
theorem wpList_eql_other {ops : Array Oper} {rest : List Oper} {o : Oper} {a : Act} {w : World} {Q : Exit → Act → World → Prop} (hgd : o.guard = none) (tp te tt : TypeId) (x y : Operand) (ho : o.op = .binOp .eql tp x y tt)
    {k b1 b2 : Nat} (hx : a.eval x = .pointer (some ⟨b1, 0, none⟩)) (hy : a.eval y = .pointer (some ⟨b2, 0, none⟩)) (hp : P.underlying tp = some (.pointer te)) (hte : (P.info? te).map (·.size) = some (k + 1))
    (hne : b1 ≠ b2) {ca cb : Array Value} {ta tb : TypeId} (ha : Blk w b1 ta ca) (hb : Blk w b2 tb cb) (h : wpList P ops Q rest (a.put o.dst (.bool false)) w) : wpList P ops Q (o :: rest) a w :=
  wpList_plain hgd fun _ hK => by
    have hr := eql_ptr_other hp hte hne w ha hb
    unfold Oper.wp execOp
    simp only [ho, hx, hy, Sem.run_bind, Sem.run_pure, Result.andThen_ok, eqGuard, hr, Bool.not_true, Bool.false_eq_true, if_false]
    exact hK _ _ h
end
theorem Blk.drewN {w : World} {g : Nat} {t : TypeId} {cs : Array Value} (h : Blk w g t cs) (n : Nat) : Blk (w.drewN n) g t cs := h
theorem below_drewN' {B : Nat} {a w : World} (h : Below B a w) (n : Nat) : Below B a (w.drewN n) := ⟨h.os, h.tape, h.output, h.size, h.block⟩

end Sk
end Go.Proofs.Ytoglklldclgcbaa
