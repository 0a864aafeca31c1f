/-
  Plain facts on skip lists: keys and their order, nodes, the ways along the steps. No program in sight.
-/
import Derived.WalkKit
import Derived.WalkLawsBesides
namespace Go.Proofs.Ytoglklldclgcbaa
namespace Sk

/-- a key below another one, as the model says it -/
def kl (a b : ByteArray) : Bool := Op.bytesLess a.toList b.toList

theorem bl_eq : ∀ (x y : List UInt8), Op.bytesLess x y = decide (x < y)
  | [], [] => by simp [Op.bytesLess]
  | _ :: _, [] => by simp [Op.bytesLess]
  | [], _ :: _ => by simp [Op.bytesLess]
  | a :: x, b :: y => by
    rw [Op.bytesLess, bl_eq x y, Bool.eq_iff_iff]
    simp [List.cons_lt_cons_iff]

theorem kl_iff (a b : ByteArray) : kl a b = true ↔ a.toList < b.toList := by
  unfold kl; rw [bl_eq]; simp

theorem kl_irrefl (a : ByteArray) : kl a a = false := by
  cases h : kl a a with
  | false => rfl
  | true => exact absurd ((kl_iff a a).1 h) (List.lt_irrefl _)

theorem kl_trans {a b c : ByteArray} (h : kl a b = true) (h' : kl b c = true) : kl a c = true :=
  (kl_iff a c).2 (List.lt_trans ((kl_iff a b).1 h) ((kl_iff b c).1 h'))

theorem toList_inj {a b : ByteArray} (h : a.toList = b.toList) : a = b := by
  rw [ByteArray.toList_eq, ByteArray.toList_eq] at h
  obtain ⟨⟨a⟩⟩ := a
  obtain ⟨⟨b⟩⟩ := b
  simp at h
  rw [h]

theorem kl_total {a b : ByteArray} (h : kl a b = false) (h' : kl b a = false) : a = b := by
  have h1 : ¬ a.toList < b.toList := fun e => by rw [(kl_iff a b).2 e] at h; cases h
  have h2 : ¬ b.toList < a.toList := fun e => by rw [(kl_iff b a).2 e] at h'; cases h'
  exact toList_inj (List.le_antisymm (List.not_lt.1 h2) (List.not_lt.1 h1))

theorem kl_asymm {a b : ByteArray} (h : kl a b = true) : kl b a = false := by
  cases h' : kl b a with
  | false => rfl
  | true => have := kl_trans h h'; rw [kl_irrefl] at this; cases this

/-- not below and not above a middle one -/
theorem kl_of_not {a b c : ByteArray} (h : kl b a = false) (h' : kl b c = true) : kl a c = true := by
  cases e : kl a b with
  | true => exact kl_trans e h'
  | false => rw [kl_total e h]; exact h'

theorem keq_iff (a b : ByteArray) : (a.toList == b.toList) = true ↔ a = b :=
  ⟨fun h => toList_inj (by simpa using h), fun h => by rw [h]; simp⟩

theorem keq_false {a b : ByteArray} (h : a ≠ b) : (a.toList == b.toList) = false := by
  cases e : (a.toList == b.toList) with
  | false => rfl
  | true => exact absurd ((keq_iff a b).1 e) h

/-- what a list holds at a place: a key, a value's cell, on how many steps -/
structure It where
  k : ByteArray
  v : Value
  s : Nat

/-- a node: its block, and what it holds -/
structure Nd where
  b : Nat
  i : It

/-- the node with another value -/
def Nd.put (N : Nd) (v : Value) : Nd := ⟨N.b, ⟨N.i.k, v, N.i.s⟩⟩
@[simp] theorem Nd.put_b (N : Nd) (v : Value) : (N.put v).b = N.b := rfl
@[simp] theorem Nd.put_k (N : Nd) (v : Value) : (N.put v).i.k = N.i.k := rfl
@[simp] theorem Nd.put_v (N : Nd) (v : Value) : (N.put v).i.v = v := rfl
@[simp] theorem Nd.put_s (N : Nd) (v : Value) : (N.put v).i.s = N.i.s := rfl

/-- the first node on step j + 1 -/
def firstOn (j : Nat) : List Nd → Option Nat
  | [] => none
  | x :: r => if j < x.i.s then some x.b else firstOn j r

/-- where the node in block b leads on step j + 1 -/
def way : List Nd → Nat → Nat → Option Nat
  | [], _, _ => none
  | x :: r, b, j => if b = x.b then (if j < x.i.s then firstOn j r else none) else way r b j

/-- the last node on step j + 1 -/
def lastOn (j : Nat) : List Nd → Option Nd
  | [] => none
  | x :: r => match lastOn j r with
    | some y => some y
    | none => if j < x.i.s then some x else none

def blocks (l : List Nd) : List Nat := l.map Nd.b

@[simp] theorem blocks_nil : blocks [] = [] := rfl
@[simp] theorem blocks_cons (x : Nd) (l : List Nd) : blocks (x :: l) = x.b :: blocks l := rfl
@[simp] theorem blocks_append (l r : List Nd) : blocks (l ++ r) = blocks l ++ blocks r := by simp [blocks]
theorem mem_blocks {x : Nd} {l : List Nd} (h : x ∈ l) : x.b ∈ blocks l := List.mem_map_of_mem h

theorem firstOn_append (j : Nat) (l r : List Nd) : firstOn j (l ++ r) = (match firstOn j l with | some b => some b | none => firstOn j r) := by
  induction l with
  | nil => rfl
  | cons x l ih =>
    simp only [List.cons_append, firstOn]
    by_cases h : j < x.i.s
    · simp [h]
    · simp [h, ih]

theorem firstOn_mem {j b : Nat} {l : List Nd} (h : firstOn j l = some b) : b ∈ blocks l := by
  induction l with
  | nil => simp [firstOn] at h
  | cons x l ih =>
    simp only [firstOn] at h
    by_cases hj : j < x.i.s
    · rw [if_pos hj] at h; injection h with h; subst h; simp
    · rw [if_neg hj] at h; exact List.mem_cons_of_mem _ (ih h)

theorem firstOn_split {j b : Nat} {l : List Nd} (h : firstOn j l = some b) : ∃ l1 y l2, l = l1 ++ y :: l2 ∧ y.b = b ∧ j < y.i.s ∧ ∀ z ∈ l1, ¬ j < z.i.s := by
  induction l with
  | nil => simp [firstOn] at h
  | cons x l ih =>
    simp only [firstOn] at h
    by_cases hj : j < x.i.s
    · rw [if_pos hj] at h; injection h with h
      exact ⟨[], x, l, rfl, h, hj, fun _ hz => by cases hz⟩
    · rw [if_neg hj] at h
      obtain ⟨l1, y, l2, rfl, h1, h2, h3⟩ := ih h
      refine ⟨x :: l1, y, l2, rfl, h1, h2, fun z hz => ?_⟩
      rcases List.mem_cons.1 hz with rfl | hz
      · exact hj
      · exact h3 z hz

theorem firstOn_none {j : Nat} {l : List Nd} (h : firstOn j l = none) : ∀ z ∈ l, ¬ j < z.i.s := by
  induction l with
  | nil => intro z hz; cases hz
  | cons x l ih =>
    simp only [firstOn] at h
    by_cases hj : j < x.i.s
    · rw [if_pos hj] at h; cases h
    · rw [if_neg hj] at h
      intro z hz
      rcases List.mem_cons.1 hz with rfl | hz
      · exact hj
      · exact ih h z hz

theorem firstOn_none_of {j : Nat} {l : List Nd} (h : ∀ z ∈ l, ¬ j < z.i.s) : firstOn j l = none := by
  induction l with
  | nil => rfl
  | cons x l ih =>
    simp only [firstOn]
    rw [if_neg (h x (by simp)), ih (fun z hz => h z (List.mem_cons_of_mem _ hz))]

theorem lastOn_none {j : Nat} {l : List Nd} (h : lastOn j l = none) : ∀ z ∈ l, ¬ j < z.i.s := by
  induction l with
  | nil => intro z hz; cases hz
  | cons x l ih =>
    simp only [lastOn] at h
    cases e : lastOn j l with
    | some y => rw [e] at h; cases h
    | none =>
      rw [e] at h
      by_cases hj : j < x.i.s
      · simp [hj] at h
      · intro z hz
        rcases List.mem_cons.1 hz with rfl | hz
        · exact hj
        · exact ih e z hz

theorem lastOn_split {j : Nat} {a : Nd} {l : List Nd} (h : lastOn j l = some a) : ∃ xs ys, l = xs ++ a :: ys ∧ j < a.i.s ∧ ∀ z ∈ ys, ¬ j < z.i.s := by
  induction l with
  | nil => simp [lastOn] at h
  | cons x l ih =>
    simp only [lastOn] at h
    cases e : lastOn j l with
    | some y =>
      rw [e] at h
      injection h with h
      subst h
      obtain ⟨xs, ys, rfl, h1, h2⟩ := ih e
      exact ⟨x :: xs, ys, rfl, h1, h2⟩
    | none =>
      rw [e] at h
      by_cases hj : j < x.i.s
      · simp only [hj, if_true, Option.some.injEq] at h
        subst h
        exact ⟨[], l, rfl, hj, lastOn_none e⟩
      · simp [hj] at h

theorem lastOn_none_of {j : Nat} {l : List Nd} (h : ∀ z ∈ l, ¬ j < z.i.s) : lastOn j l = none := by
  induction l with
  | nil => rfl
  | cons x l ih =>
    simp only [lastOn]
    rw [ih (fun z hz => h z (List.mem_cons_of_mem _ hz))]
    simp [h x (by simp)]

theorem lastOn_of {j : Nat} {a : Nd} {xs ys : List Nd} (ha : j < a.i.s) (hy : ∀ z ∈ ys, ¬ j < z.i.s) : lastOn j (xs ++ a :: ys) = some a := by
  induction xs with
  | nil => simp [lastOn, lastOn_none_of hy, ha]
  | cons x xs ih => simp only [List.cons_append, lastOn, ih]

theorem lastOn_mem {j : Nat} {a : Nd} {l : List Nd} (h : lastOn j l = some a) : a ∈ l := by
  obtain ⟨xs, ys, rfl, _, _⟩ := lastOn_split h; simp

theorem lastOn_head {j : Nat} (H : Nd) (hj : j < H.i.s) (l : List Nd) : ∃ a, lastOn j (H :: l) = some a := by
  simp only [lastOn]
  cases lastOn j l with
  | some y => exact ⟨y, rfl⟩
  | none => exact ⟨H, by simp [hj]⟩

theorem way_out {l : List Nd} {b : Nat} (h : b ∉ blocks l) (j : Nat) : way l b j = none := by
  induction l with
  | nil => rfl
  | cons x l ih =>
    simp only [blocks_cons, List.mem_cons, not_or] at h
    simp only [way]
    rw [if_neg h.1, ih h.2]

theorem way_at {xs ys : List Nd} {a : Nd} (hnd : (blocks (xs ++ a :: ys)).Nodup) (j : Nat) : way (xs ++ a :: ys) a.b j = if j < a.i.s then firstOn j ys else none := by
  induction xs with
  | nil => simp [way]
  | cons x xs ih =>
    simp only [List.cons_append, blocks_cons, List.nodup_cons] at hnd
    simp only [List.cons_append, way]
    rw [if_neg (fun e => hnd.1 (by rw [← e]; simp)), ih hnd.2]

/-- of the last node of the front part on a step: it leads to the first one of the rear part -/
theorem way_last {pre post : List Nd} {a : Nd} {j : Nat} (hnd : (blocks (pre ++ post)).Nodup) (ha : lastOn j pre = some a) : way (pre ++ post) a.b j = firstOn j post := by
  obtain ⟨xs, ys, rfl, h1, h2⟩ := lastOn_split ha
  rw [List.append_assoc, List.cons_append] at hnd ⊢
  rw [way_at hnd, if_pos h1, firstOn_append, firstOn_none_of h2]

theorem lastOn_firstOn {j : Nat} {l : List Nd} (r : List Nd) (h : lastOn j l = none) : firstOn j (l ++ r) = firstOn j r := by
  rw [firstOn_append, firstOn_none_of (lastOn_none h)]

theorem lastOn_firstOn' {j : Nat} {l : List Nd} {a : Nd} (r r' : List Nd) (h : lastOn j l = some a) : firstOn j (l ++ r) = firstOn j (l ++ r') := by
  rw [firstOn_append, firstOn_append]
  cases e : firstOn j l with
  | some b => rfl
  | none => exact absurd (lastOn_split h).choose_spec.choose_spec.2.1 (firstOn_none e a (lastOn_mem h))

/-- a node more between two parts: where each node leads -/
theorem way_insert {pre post : List Nd} {N : Nd} (hN : N.b ∉ blocks pre) (hnd : (blocks pre).Nodup) (b j : Nat) :
    way (pre ++ N :: post) b j =
      if b = N.b then (if j < N.i.s then firstOn j post else none)
      else if j < N.i.s ∧ (lastOn j pre).map Nd.b = some b then some N.b else way (pre ++ post) b j := by
  induction pre with
  | nil => simp [way, lastOn]
  | cons x r ih =>
    simp only [blocks_cons, List.mem_cons, not_or] at hN
    simp only [blocks_cons, List.nodup_cons] at hnd
    have ih := ih hN.2 hnd.2
    simp only [List.cons_append, way]
    by_cases hb : b = x.b
    · subst hb
      have hbN : ¬ x.b = N.b := fun e => hN.1 e.symm
      simp only [hbN, if_true, if_false, lastOn]
      cases e : lastOn j r with
      | some y =>
        have hy : y.b ≠ x.b := fun h => hnd.1 (by rw [← h]; exact mem_blocks (lastOn_mem e))
        rw [lastOn_firstOn' (N :: post) post e]
        simp [hy]
      | none =>
        rw [lastOn_firstOn _ e, lastOn_firstOn _ e]
        by_cases hx : j < x.i.s
        · by_cases hn : j < N.i.s
          · simp [hx, hn, firstOn]
          · simp [hx, hn, firstOn]
        · simp [hx]
    · rw [if_neg hb, ih, if_neg hb]
      have : ((lastOn j (x :: r)).map Nd.b = some b) ↔ ((lastOn j r).map Nd.b = some b) := by
        simp only [lastOn]
        cases e : lastOn j r with
        | some y => simp
        | none =>
          by_cases hx : j < x.i.s
          · simp [hx, Ne.symm hb]
          · simp [hx]
      simp only [this]

/-- where nodes lead hangs on blocks and steps alone -/
theorem firstOn_congr (j : Nat) : ∀ {l l' : List Nd}, l.map (fun x => (x.b, x.i.s)) = l'.map (fun x => (x.b, x.i.s)) → firstOn j l = firstOn j l'
  | [], [], _ => rfl
  | [], _ :: _, h => by simp at h
  | _ :: _, [], h => by simp at h
  | x :: l, y :: l', h => by
    simp only [List.map_cons, List.cons.injEq, Prod.mk.injEq] at h
    simp only [firstOn, h.1.1, h.1.2, firstOn_congr j h.2]

theorem way_congr : ∀ {l l' : List Nd}, l.map (fun x => (x.b, x.i.s)) = l'.map (fun x => (x.b, x.i.s)) → ∀ b j, way l b j = way l' b j
  | [], [], _, _, _ => rfl
  | [], _ :: _, h, _, _ => by simp at h
  | _ :: _, [], h, _, _ => by simp at h
  | x :: l, y :: l', h, b, j => by
    simp only [List.map_cons, List.cons.injEq, Prod.mk.injEq] at h
    simp only [way, h.1.1, h.1.2, firstOn_congr j h.2, way_congr h.2 b j]

/-! ### lists in the order of their keys, whatever else their elements hold -/
section
variable {α β : Type} (kf : α → ByteArray)

def lo (key : ByteArray) (l : List α) : List α := l.takeWhile fun x => kl (kf x) key
def hi (key : ByteArray) (l : List α) : List α := l.dropWhile fun x => kl (kf x) key
def Srt (l : List α) : Prop := l.Pairwise fun x y => kl (kf x) (kf y) = true
/-- what stands at a key -/
def seek (key : ByteArray) (l : List α) : Option α := match hi kf key l with
  | z :: _ => if (kf z).toList == key.toList then some z else none
  | [] => none

theorem lo_hi (key : ByteArray) (l : List α) : lo kf key l ++ hi kf key l = l := List.takeWhile_append_dropWhile
theorem lo_below {key : ByteArray} {l : List α} : ∀ y ∈ lo kf key l, kl (kf y) key = true := by
  intro y hy
  induction l with
  | nil => simp [lo] at hy
  | cons x l ih =>
    unfold lo at hy ih
    rw [List.takeWhile_cons] at hy
    cases hx : kl (kf x) key with
    | false => simp [hx] at hy
    | true =>
      simp only [hx, if_true, List.mem_cons] at hy
      rcases hy with rfl | hy
      · exact hx
      · exact ih hy
theorem hi_head {key : ByteArray} {l : List α} {z : α} {r : List α} (h : hi kf key l = z :: r) : kl (kf z) key = false := by
  induction l with
  | nil => simp [hi] at h
  | cons x l ih =>
    unfold hi at h ih
    rw [List.dropWhile_cons] at h
    cases hx : kl (kf x) key with
    | false => simp [hx] at h; rw [← h.1]; exact hx
    | true => simp only [hx, if_true] at h; exact ih h
theorem hi_above {key : ByteArray} {l : List α} (hs : Srt kf l) : ∀ z ∈ hi kf key l, kl (kf z) key = false := by
  intro y hy
  cases e : hi kf key l with
  | nil => rw [e] at hy; cases hy
  | cons z r =>
    have hz := hi_head kf e
    rw [e] at hy
    rcases List.mem_cons.1 hy with rfl | hy
    · exact hz
    · have hl : Srt kf (z :: r) := by
        have := hs
        unfold Srt at this
        rw [← lo_hi kf key l, e] at this
        exact (List.pairwise_append.1 this).2.1
      have hzy := (List.pairwise_cons.1 hl).1 y hy
      cases hk : kl (kf y) key with
      | false => rfl
      | true => rw [kl_trans hzy hk] at hz; cases hz

theorem lo_eq {key : ByteArray} {pre post : List α} (h1 : ∀ y ∈ pre, kl (kf y) key = true) (h2 : ∀ z ∈ post, kl (kf z) key = false) : lo kf key (pre ++ post) = pre ∧ hi kf key (pre ++ post) = post := by
  induction pre with
  | nil =>
    cases post with
    | nil => exact ⟨rfl, rfl⟩
    | cons z r =>
      have hz := h2 z (by simp)
      simp [lo, hi, hz]
  | cons x pre ih =>
    have hx := h1 x (by simp)
    obtain ⟨a, b⟩ := ih (fun y hy => h1 y (List.mem_cons_of_mem _ hy))
    unfold lo at a ⊢
    unfold hi at b ⊢
    rw [List.cons_append, List.takeWhile_cons, List.dropWhile_cons]
    simp [hx, a, b]

theorem seek_mem {key : ByteArray} {l : List α} {x : α} (h : seek kf key l = some x) : x ∈ l ∧ kf x = key := by
  unfold seek at h
  cases e : hi kf key l with
  | nil => rw [e] at h; cases h
  | cons z r =>
    rw [e] at h
    by_cases hk : ((kf z).toList == key.toList) = true
    · simp only [hk, if_true, Option.some.injEq] at h
      subst h
      refine ⟨?_, (keq_iff _ _).1 hk⟩
      rw [← lo_hi kf key l, e]; simp
    · simp only [hk] at h; cases h

/-- the list about a key that it has -/
theorem seek_some {key : ByteArray} {l : List α} {x : α} (h : seek kf key l = some x) : ∃ r, hi kf key l = x :: r ∧ kf x = key := by
  unfold seek at h
  cases e : hi kf key l with
  | nil => rw [e] at h; cases h
  | cons z r =>
    rw [e] at h
    by_cases hk : ((kf z).toList == key.toList) = true
    · simp only [hk, if_true, Option.some.injEq] at h
      subst h
      exact ⟨r, rfl, (keq_iff _ _).1 hk⟩
    · simp only [hk] at h; cases h
theorem seek_none {key : ByteArray} {l : List α} (h : seek kf key l = none) : ∀ z r, hi kf key l = z :: r → kf z ≠ key := by
  intro z r e hk
  unfold seek at h
  rw [e] at h
  simp [hk] at h

theorem lo_map (g : β → α) (key : ByteArray) (l : List β) : lo kf key (l.map g) = (lo (fun x => kf (g x)) key l).map g := by
  unfold lo; induction l with
  | nil => rfl
  | cons x l ih => simp only [List.map_cons, List.takeWhile_cons]; cases kl (kf (g x)) key <;> simp [ih]
theorem hi_map (g : β → α) (key : ByteArray) (l : List β) : hi kf key (l.map g) = (hi (fun x => kf (g x)) key l).map g := by
  unfold hi; induction l with
  | nil => rfl
  | cons x l ih => simp only [List.map_cons, List.dropWhile_cons]; cases kl (kf (g x)) key <;> simp [ih]
theorem seek_map (g : β → α) (key : ByteArray) (l : List β) : seek kf key (l.map g) = (seek (fun x => kf (g x)) key l).map g := by
  unfold seek
  rw [hi_map]
  cases hi (fun x => kf (g x)) key l with
  | nil => rfl
  | cons z r => simp only [List.map_cons]; split <;> rfl
end

/-- a node's key -/
def ndk (x : Nd) : ByteArray := x.i.k

/-- the keys on step m + 1 -/
def keysOn (m : Nat) (l : List Nd) : List ByteArray := (l.filter fun x => decide (m < x.i.s)).map ndk
theorem keysOn_append (m : Nat) (l r : List Nd) : keysOn m (l ++ r) = keysOn m l ++ keysOn m r := by simp [keysOn]
theorem keysOn_none {m : Nat} {l : List Nd} (h : ∀ z ∈ l, ¬ m < z.i.s) : keysOn m l = [] := by
  unfold keysOn
  rw [List.filter_eq_nil_iff.2 (fun z hz => by simpa using h z hz)]
  rfl
theorem keysOn_one {m : Nat} {y : Nd} (h : m < y.i.s) : keysOn m [y] = [y.i.k] := by simp [keysOn, h, ndk]
theorem keysOn_le (m : Nat) (l : List Nd) : (keysOn m l).length ≤ l.length := by
  unfold keysOn; simpa using List.length_filter_le _ l

end Sk
end Go.Proofs.Ytoglklldclgcbaa
