/-
  Plain facts on routes: edges of shards in order, the shard of a key, what a shard has of a span. No program in sight.
-/
import Derived.Test.YtpkiiimbichooaaSkPlain
namespace Go.Proofs.Ytpkiiimbichooaa
open Sk
namespace Rt

def em : ByteArray := ⟨#[]⟩
def top : ByteArray := ⟨(List.replicate 33 255).toArray⟩
def isK (s : ByteArray) : Bool := decide (1 ≤ s.size ∧ s.size ≤ 32)

theorem size_toList (s : ByteArray) : s.toList.length = s.size := by rw [ByteArray.toList_eq]; rfl
theorem top_toList : top.toList = List.replicate 33 255 := by rw [ByteArray.toList_eq]; rfl
theorem em_toList : em.toList = [] := by rw [ByteArray.toList_eq]; rfl
theorem top_size : top.size = 33 := by rw [← size_toList, top_toList]; rfl

theorem lt_high : ∀ (n : Nat) (l : List UInt8), l.length < n → l < List.replicate n 255
  | 0, l, h => by omega
  | n + 1, [], _ => by simp [List.replicate_succ]
  | n + 1, a :: l, h => by
    rw [List.replicate_succ, List.cons_lt_cons_iff]
    have ih := lt_high n l (by simpa using h)
    by_cases e : a = 255
    · exact .inr ⟨e, ih⟩
    · refine .inl ?_
      rw [UInt8.lt_iff_toNat_lt]
      have h1 : a.toNat < 256 := a.toNat_lt
      have h2 : a.toNat ≠ 255 := fun h => e (UInt8.toNat_inj.1 (by simpa using h))
      simp
      omega
theorem kl_top {s : ByteArray} (h : s.size ≤ 32) : kl s top = true := by
  rw [kl_iff, top_toList]
  exact lt_high 33 _ (by rw [size_toList]; omega)
theorem kl_em {s : ByteArray} (h : 1 ≤ s.size) : kl em s = true := by
  rw [kl_iff, em_toList]
  rw [← size_toList] at h
  cases e : s.toList with
  | nil => rw [e] at h; simp at h
  | cons a l => simp
theorem kl_em_right (s : ByteArray) : kl s em = false := by
  cases h : kl s em with
  | false => rfl
  | true => rw [kl_iff, em_toList] at h; simp at h

/-- a text, and one byte 0 behind it -/
def nxt (s : ByteArray) : ByteArray := ⟨(s.toList ++ [0]).toArray⟩
theorem nxt_toList (s : ByteArray) : (nxt s).toList = s.toList ++ [0] := by rw [ByteArray.toList_eq]; simp [nxt]
theorem lt_snoc : ∀ (l : List UInt8), l < l ++ [0]
  | [] => by simp
  | a :: l => by rw [List.cons_append, List.cons_lt_cons_iff]; exact .inr ⟨rfl, lt_snoc l⟩
theorem kl_nxt (s : ByteArray) : kl s (nxt s) = true := by rw [kl_iff, nxt_toList]; exact lt_snoc _
theorem snoc_le : ∀ (l r : List UInt8), l < r → ¬ r < l ++ [0]
  | [], [], h => by simp at h
  | [], b :: r, _ => by
    intro h
    rw [List.nil_append, List.cons_lt_cons_iff] at h
    rcases h with h | ⟨_, h⟩
    · rw [UInt8.lt_iff_toNat_lt] at h; simp at h
    · simp at h
  | a :: l, [], h => by simp at h
  | a :: l, b :: r, h => by
    intro h'
    rw [List.cons_append, List.cons_lt_cons_iff] at h'
    rw [List.cons_lt_cons_iff] at h
    rcases h with h | ⟨rfl, h⟩
    · rcases h' with h' | ⟨rfl, _⟩
      · rw [UInt8.lt_iff_toNat_lt] at h h'; omega
      · rw [UInt8.lt_iff_toNat_lt] at h; omega
    · rcases h' with h' | ⟨_, h'⟩
      · rw [UInt8.lt_iff_toNat_lt] at h'; omega
      · exact snoc_le l r h h'
theorem nxt_le {a b : ByteArray} (h : kl a b = true) : kl b (nxt a) = false := by
  cases e : kl b (nxt a) with
  | false => rfl
  | true =>
    rw [kl_iff, nxt_toList] at e
    exact absurd e (snoc_le _ _ ((kl_iff _ _).1 h))
/-- what is below the next one is not above -/
theorem le_of_nxt {a b : ByteArray} (h : kl b (nxt a) = true) : kl a b = false := by
  cases e : kl a b with
  | false => rfl
  | true => rw [nxt_le e] at h; cases h
theorem kl_nxt_of {a b : ByteArray} (h : kl a b = false) : kl b (nxt a) = true := by
  cases e : kl b a with
  | true => exact kl_trans e (kl_nxt a)
  | false => rw [kl_total e h]; exact kl_nxt a

/-! ### plans -/
/-- is the j-th split one? -/
def good (l : List ByteArray) (j : Nat) : Bool := match l[j]? with
  | some s => isK s && (match j with | 0 => true | i + 1 => (match l[i]? with | some p => kl p s | none => false))
  | none => true
def okB (l : List ByteArray) : Bool := (List.range l.length).all (good l)
/-- the error of a plan -/
def newE (l : List ByteArray) (nodes : Int) : Int := if 6 ≤ l.length then 5 else if okB l = false then 2 else if nodes < 1 ∨ 4 < nodes then 9 else 0

def Asc (l : List ByteArray) : Prop := l.Pairwise fun a b => kl a b = true
theorem asc_adj : ∀ {l : List ByteArray}, (∀ i x y, l[i]? = some x → l[i + 1]? = some y → kl x y = true) → Asc l
  | [], _ => List.Pairwise.nil
  | [a], _ => List.pairwise_singleton _ _
  | a :: b :: r, h => by
    have ih : Asc (b :: r) := asc_adj fun i x y h1 h2 => h (i + 1) x y (by simpa using h1) (by simpa using h2)
    have hab : kl a b = true := h 0 a b rfl rfl
    refine List.pairwise_cons.2 ⟨fun z hz => ?_, ih⟩
    rcases List.mem_cons.1 hz with rfl | hz
    · exact hab
    · exact kl_trans hab ((List.pairwise_cons.1 ih).1 z hz)

def edges (l : List ByteArray) : List ByteArray := em :: (l ++ [top])
theorem edges_length (l : List ByteArray) : (edges l).length = l.length + 2 := by simp [edges]

theorem good_of {l : List ByteArray} (h : okB l = true) {j : Nat} (hj : j < l.length) : good l j = true := by
  unfold okB at h
  exact List.all_eq_true.1 h j (List.mem_range.2 hj)
theorem isK_of {l : List ByteArray} (h : okB l = true) {j : Nat} {s : ByteArray} (hs : l[j]? = some s) : 1 ≤ s.size ∧ s.size ≤ 32 := by
  have hj := (List.getElem?_eq_some_iff.1 hs).1
  have := good_of h hj
  unfold good at this
  rw [hs] at this
  simp only [Bool.and_eq_true] at this
  simpa [isK] using this.1
theorem kl_of_ok {l : List ByteArray} (h : okB l = true) {j : Nat} {p s : ByteArray} (hp : l[j]? = some p) (hs : l[j + 1]? = some s) : kl p s = true := by
  have hj := (List.getElem?_eq_some_iff.1 hs).1
  have := good_of h hj
  unfold good at this
  rw [hs] at this
  simp only [hp, Bool.and_eq_true] at this
  exact this.2
theorem asc_edges {l : List ByteArray} (h : okB l = true) : Asc (edges l) := by
  refine asc_adj fun i x y hx hy => ?_
  unfold edges at hx hy
  cases i with
  | zero =>
    simp only [List.getElem?_cons_zero, Option.some.injEq] at hx
    subst hx
    simp only [Nat.zero_add, List.getElem?_cons_succ] at hy
    by_cases h0 : 0 < l.length
    · rw [List.getElem?_append_left h0] at hy
      exact kl_em (isK_of h hy).1
    · obtain rfl : l = [] := List.length_eq_zero_iff.1 (by omega)
      simp at hy; subst hy
      exact kl_em (by rw [top_size]; omega)
  | succ i =>
    simp only [List.getElem?_cons_succ] at hx hy
    have hil : i < l.length := by
      have := (List.getElem?_eq_some_iff.1 hy).1
      simp at this; omega
    rw [List.getElem?_append_left hil] at hx
    by_cases hi2 : i + 1 < l.length
    · rw [List.getElem?_append_left hi2] at hy
      exact kl_of_ok h hx hy
    · obtain rfl : y = top := by
        rw [List.getElem?_append_right (by omega)] at hy
        rw [show i + 1 - l.length = 0 by omega] at hy
        simpa using hy.symm
      exact kl_top (isK_of h hx).2

/-- the i-th edge -/
def ed (E : List ByteArray) (i : Nat) : ByteArray := E[i]?.getD em
theorem ed_get {E : List ByteArray} {i : Nat} (h : i < E.length) : E[i]? = some (ed E i) := by
  unfold ed; rw [List.getElem?_eq_getElem h]; rfl
theorem ed_zero (l : List ByteArray) : ed (edges l) 0 = em := rfl
theorem ed_top (l : List ByteArray) : ed (edges l) (l.length + 1) = top := by
  unfold ed edges
  simp
theorem ed_asc {E : List ByteArray} (h : Asc E) {i j : Nat} (hij : i < j) (hj : j < E.length) : kl (ed E i) (ed E j) = true := by
  have h1 := ed_get (E := E) (i := i) (by omega)
  have h2 := ed_get hj
  obtain ⟨_, e1⟩ := List.getElem?_eq_some_iff.1 h1
  obtain ⟨_, e2⟩ := List.getElem?_eq_some_iff.1 h2
  rw [← e1, ← e2]
  exact List.pairwise_iff_getElem.1 h i j (by omega) hj hij
theorem ed_size {l : List ByteArray} (h : okB l = true) (i : Nat) : (ed (edges l) i).size ≤ 33 := by
  by_cases hi : i < (edges l).length
  · have h1 := ed_get hi
    unfold edges at h1
    cases i with
    | zero => simp only [List.getElem?_cons_zero, Option.some.injEq] at h1; show (ed (em :: (l ++ [top])) 0).size ≤ 33; rw [← h1]; exact Nat.zero_le _
    | succ i =>
      simp only [List.getElem?_cons_succ] at h1
      by_cases hi2 : i < l.length
      · rw [List.getElem?_append_left hi2] at h1
        exact Nat.le_trans (isK_of h h1).2 (by omega)
      · rw [List.getElem?_append_right (by omega)] at h1
        have hz : i - l.length = 0 := by
          have := (List.getElem?_eq_some_iff.1 h1).1
          simp at this; exact this
        rw [hz] at h1
        simp at h1
        have : ed (edges l) (i + 1) = top := h1.symm
        rw [this, top_size]; omega
  · have : ed (edges l) i = em := by
      unfold ed
      rw [List.getElem?_eq_none (by omega)]; rfl
    rw [this]; exact Nat.zero_le _

/-- does the i-th shard have the key? -/
def inn (E : List ByteArray) (i : Nat) (key : ByteArray) : Bool := !kl key (ed E i) && kl key (ed E (i + 1))
theorem inn_iff {E : List ByteArray} {i : Nat} {key : ByteArray} : inn E i key = true ↔ kl key (ed E i) = false ∧ kl key (ed E (i + 1)) = true := by
  unfold inn; cases kl key (ed E i) <;> cases kl key (ed E (i + 1)) <;> simp
theorem inn_one {E : List ByteArray} (h : Asc E) {i j : Nat} {key : ByteArray} (hi : i + 1 < E.length) (hj : j + 1 < E.length) (h1 : inn E i key = true) (h2 : inn E j key = true) : i = j := by
  have key1 : ∀ {a b : Nat}, b + 1 < E.length → inn E a key = true → inn E b key = true → ¬ a < b := by
    intro a b hb ha hb2 hab
    have e1 := (inn_iff.1 ha).2
    have e2 := (inn_iff.1 hb2).1
    by_cases e : a + 1 = b
    · rw [e] at e1; rw [e1] at e2; cases e2
    · rw [kl_trans e1 (ed_asc h (show a + 1 < b by omega) (by omega))] at e2; cases e2
  have a1 := key1 hj h1 h2
  have a2 := key1 hi h2 h1
  omega

/-- the shard of a key: of what is found by halving -/
def cnt (E : List ByteArray) (key : ByteArray) : Nat := (lo id key E).length
theorem cnt_below {E : List ByteArray} {key : ByteArray} {t : Nat} (ht : t < cnt E key) : kl (ed E t) key = true := by
  have h1 : (lo id key E)[t]? = some (lo id key E)[t] := List.getElem?_eq_getElem ht
  have h2 := lo_below id _ (List.getElem_mem ht)
  have h3 : E[t]? = some (lo id key E)[t] := by
    conv => lhs; rw [← lo_hi id key E]
    rw [List.getElem?_append_left ht, h1]
  unfold ed
  rw [h3]
  exact h2
theorem cnt_above {E : List ByteArray} (h : Asc E) {key : ByteArray} {t : Nat} (ht : cnt E key ≤ t) (hE : t < E.length) : kl (ed E t) key = false := by
  have hs : Srt id E := h
  have h1 := ed_get hE
  rw [← lo_hi id key E] at h1
  rw [List.getElem?_append_right ht] at h1
  have h2 : ed (lo id key E ++ hi id key E) t ∈ hi id key E := List.mem_of_getElem? h1
  rw [lo_hi] at h2
  exact hi_above id hs _ h2
theorem cnt_le (E : List ByteArray) (key : ByteArray) : cnt E key ≤ E.length := by
  have := congrArg List.length (lo_hi id key E)
  simp at this
  unfold cnt
  omega
def fnd (E : List ByteArray) (key : ByteArray) : Bool := decide (cnt E key < E.length ∧ ed E (cnt E key) = key)
def shard (E : List ByteArray) (key : ByteArray) : Nat := if fnd E key = true then cnt E key else cnt E key - 1

theorem shard_in {l : List ByteArray} (h : okB l = true) {key : ByteArray} (h1 : 1 ≤ key.size) (h2 : key.size ≤ 32) :
    shard (edges l) key ≤ l.length ∧ inn (edges l) (shard (edges l) key) key = true ∧ 1 ≤ cnt (edges l) key ∧ cnt (edges l) key ≤ l.length + 1 := by
  have ha := asc_edges h
  have hlen := edges_length l
  have c1 : 1 ≤ cnt (edges l) key := by
    rcases Nat.lt_or_ge 0 (cnt (edges l) key) with h0 | h0
    · exact h0
    · have := cnt_above ha h0 (by omega)
      rw [ed_zero, kl_em h1] at this; cases this
  have c2 : cnt (edges l) key ≤ l.length + 1 := by
    rcases Nat.lt_or_ge (l.length + 1) (cnt (edges l) key) with h0 | h0
    · have := cnt_below h0
      rw [ed_top] at this
      rw [kl_asymm (kl_top h2)] at this; cases this
    · exact h0
  refine ⟨?_, ?_, c1, c2⟩
  · unfold shard
    by_cases hf : fnd (edges l) key = true
    · rw [if_pos hf]
      unfold fnd at hf
      simp only [decide_eq_true_eq] at hf
      by_cases e : cnt (edges l) key = l.length + 1
      · have := hf.2
        rw [e, ed_top] at this
        rw [← this, top_size] at h2
        omega
      · omega
    · rw [if_neg hf]; omega
  · unfold shard
    by_cases hf : fnd (edges l) key = true
    · rw [if_pos hf]
      have hf' := hf
      unfold fnd at hf'
      simp only [decide_eq_true_eq] at hf'
      rw [inn_iff, hf'.2]
      refine ⟨kl_irrefl _, ?_⟩
      have e : cnt (edges l) key ≠ l.length + 1 := by
        intro e
        have := hf'.2
        rw [e, ed_top] at this
        rw [← this, top_size] at h2
        omega
      have := ed_asc ha (show cnt (edges l) key < cnt (edges l) key + 1 by omega) (by omega)
      rw [hf'.2] at this
      exact this
    · rw [if_neg hf]
      have hf' : ¬ ed (edges l) (cnt (edges l) key) = key := by
        intro e
        exact hf (by unfold fnd; simp only [decide_eq_true_eq]; exact ⟨by omega, e⟩)
      rw [inn_iff]
      have e1 : cnt (edges l) key - 1 + 1 = cnt (edges l) key := by omega
      rw [e1]
      refine ⟨?_, ?_⟩
      · exact kl_asymm (cnt_below (by omega))
      · have := cnt_above ha (Nat.le_refl (cnt (edges l) key)) (by omega)
        cases e : kl key (ed (edges l) (cnt (edges l) key)) with
        | true => rfl
        | false => exact absurd (kl_total this e) hf'
theorem shard_iff {l : List ByteArray} (h : okB l = true) {key : ByteArray} (h1 : 1 ≤ key.size) (h2 : key.size ≤ 32) {i : Nat} (hi : i ≤ l.length) :
    inn (edges l) i key = decide (i = shard (edges l) key) := by
  obtain ⟨a, b, _⟩ := shard_in h h1 h2
  have hlen := edges_length l
  by_cases e : i = shard (edges l) key
  · rw [e, b]; simp
  · rw [decide_eq_false e]
    cases e2 : inn (edges l) i key with
    | false => rfl
    | true => exact absurd (inn_one (asc_edges h) (by omega) (by omega) e2 b) e

/-- any key below the top is in a shard -/
theorem inn_some {l : List ByteArray} (key : ByteArray) (hk : kl key top = true) : ∃ i, i ≤ l.length ∧ inn (edges l) i key = true := by
  have key1 : ∀ n, n ≤ l.length → (∀ i, i ≤ n → inn (edges l) i key = false) → kl key (ed (edges l) (n + 1)) = false := by
    intro n
    induction n with
    | zero =>
      intro _ hno
      have := hno 0 (Nat.le_refl _)
      unfold inn at this
      rw [ed_zero, kl_em_right] at this
      simpa using this
    | succ n ih =>
      intro hn hno
      have h1 := ih (by omega) fun i hi => hno i (by omega)
      have := hno (n + 1) (Nat.le_refl _)
      unfold inn at this
      rw [h1] at this
      simpa using this
  rcases Classical.em (∃ i, i ≤ l.length ∧ inn (edges l) i key = true) with h | h
  · exact h
  · have := key1 l.length (Nat.le_refl _) fun i hi => by
      cases e : inn (edges l) i key with
      | false => rfl
      | true => exact absurd ⟨i, hi, e⟩ h
    rw [ed_top, hk] at this
    cases this
theorem inn_top {l : List ByteArray} (h : okB l = true) {key : ByteArray} {i : Nat} (hi : i ≤ l.length) (hin : inn (edges l) i key = true) : kl key top = true := by
  have h1 := (inn_iff.1 hin).2
  have hlen := edges_length l
  by_cases e : i = l.length
  · rw [e, ed_top] at h1; exact h1
  · have := ed_asc (asc_edges h) (show i + 1 < l.length + 1 by omega) (by omega)
    rw [ed_top] at this
    exact kl_trans h1 this

end Rt
end Go.Proofs.Ytpkiiimbichooaa
