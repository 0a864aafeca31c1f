/-
  Rows in a slice of the call's own, each of so many cells: plain facts. No walk.
-/
import Derived.Test.YtoglklldclgcbaaSkMem
import Derived.OwnWalk
import Derived.Laws.OwnMore
import Derived.Laws.AppendOwnNone
namespace Go.Proofs.Ytoglklldclgcbaa
open Go.RowKit
namespace Sk

/-- the cells of elements, one behind the other -/
def flat {α : Type} (f : α → List Value) (l : List α) : List Value := l.flatMap f

section
variable {α : Type} {f : α → List Value} {m : Nat}
theorem flat_length (hf : ∀ x, (f x).length = m) (l : List α) : (flat f l).length = l.length * m := by
  induction l with
  | nil => simp [flat]
  | cons x l ih =>
    unfold flat at ih ⊢
    rw [List.flatMap_cons, List.length_append, ih, hf, List.length_cons, Nat.succ_mul]
    omega
theorem flat_append (l r : List α) : flat f (l ++ r) = flat f l ++ flat f r := by simp [flat]
theorem flat_cons (x : α) (r : List α) : flat f (x :: r) = f x ++ flat f r := by simp [flat]
theorem flat_nil : flat f [] = [] := rfl
theorem flat_get (hf : ∀ x, (f x).length = m) {l : List α} {k j : Nat} {x : α} (hx : l[k]? = some x) (hj : j < m) : (flat f l)[k * m + j]? = (f x)[j]? := by
  induction l generalizing k with
  | nil => simp at hx
  | cons y l ih =>
    rw [flat_cons]
    cases k with
    | zero =>
      simp at hx
      subst hx
      rw [Nat.zero_mul, Nat.zero_add, List.getElem?_append_left (by rw [hf]; exact hj)]
    | succ k =>
      rw [List.getElem?_cons_succ] at hx
      rw [List.getElem?_append_right (by rw [hf, Nat.succ_mul]; omega), hf]
      rw [show (k + 1) * m + j - m = k * m + j by rw [Nat.succ_mul]; omega]
      exact ih hx
theorem flat_take (hf : ∀ x, (f x).length = m) (l : List α) (k : Nat) : (flat f l).take (k * m) = flat f (l.take k) := by
  induction l generalizing k with
  | nil => simp [flat]
  | cons x l ih =>
    cases k with
    | zero => simp [flat]
    | succ k =>
      rw [flat_cons, List.take_succ_cons, flat_cons, ← ih k, List.take_append, hf, Nat.succ_mul]
      rw [List.take_of_length_le (by rw [hf]; omega)]
      congr 2
      omega
theorem flat_drop (hf : ∀ x, (f x).length = m) (l : List α) (k : Nat) : (flat f l).drop (k * m) = flat f (l.drop k) := by
  induction l generalizing k with
  | nil => simp [flat]
  | cons x l ih =>
    cases k with
    | zero => simp
    | succ k =>
      rw [flat_cons, List.drop_succ_cons, ← ih k, List.drop_append, hf, Nat.succ_mul]
      rw [List.drop_of_length_le (by rw [hf]; omega), List.nil_append]
      congr 1
      omega
theorem flat_set (hf : ∀ x, (f x).length = m) {l : List α} {k j : Nat} {x y : α} (hx : l[k]? = some x) (hj : j < m) (v : Value) (hy : f y = (f x).set j v) :
    (flat f l).set (k * m + j) v = flat f (l.set k y) := by
  induction l generalizing k with
  | nil => simp at hx
  | cons z l ih =>
    rw [flat_cons]
    cases k with
    | zero =>
      simp at hx
      subst hx
      rw [Nat.zero_mul, Nat.zero_add, List.set_append_left _ _ (by rw [hf]; exact hj), List.set_cons_zero, flat_cons, hy]
    | succ k =>
      rw [List.getElem?_cons_succ] at hx
      rw [List.set_append_right _ _ (by rw [hf, Nat.succ_mul]; omega), hf, List.set_cons_succ, flat_cons]
      rw [show (k + 1) * m + j - m = k * m + j by rw [Nat.succ_mul]; omega, ih hx]
end

theorem lo_of {α : Type} (kf : α → ByteArray) {key : ByteArray} {xs r : List α} {y : α} (h1 : ∀ x ∈ xs, kl (kf x) key = true) (h2 : kl (kf y) key = false) :
    lo kf key (xs ++ y :: r) = xs ∧ hi kf key (xs ++ y :: r) = y :: r := by
  induction xs with
  | nil => simp [lo, hi, h2]
  | cons x xs ih =>
    have hx := h1 x (by simp)
    obtain ⟨a, b⟩ := ih (fun z hz => h1 z (List.mem_cons_of_mem _ hz))
    unfold lo at a ⊢
    unfold hi at b ⊢
    rw [List.cons_append, List.takeWhile_cons, List.dropWhile_cons]
    simp [hx, a, b]
theorem lo_all {α : Type} (kf : α → ByteArray) {key : ByteArray} {xs : List α} (h1 : ∀ x ∈ xs, kl (kf x) key = true) : lo kf key xs = xs ∧ hi kf key xs = [] := by
  induction xs with
  | nil => simp [lo, hi]
  | cons x xs ih =>
    have hx := h1 x (by simp)
    obtain ⟨a, b⟩ := ih (fun z hz => h1 z (List.mem_cons_of_mem _ hz))
    unfold lo at a ⊢
    unfold hi at b ⊢
    rw [List.takeWhile_cons, List.dropWhile_cons]
    simp [hx, a, b]

theorem take_lo {α : Type} (kf : α → ByteArray) (key : ByteArray) (l : List α) : l.take (lo kf key l).length = lo kf key l ∧ l.drop (lo kf key l).length = hi kf key l := by
  have h := lo_hi kf key l
  generalize lo kf key l = a at *
  generalize hi kf key l = b at *
  subst h
  simp

/-- a slice of the call's own that holds so many cells: nil, or a block -/
theorem owns_form {w : World} {B : Nat} {e : TypeId} {size : Nat} {v : Value} {n : Nat} {xs : List Value} (h : w.ownsRow B e size v n xs) :
    (v = .slice none 0 0 ∧ n = 0 ∧ xs = []) ∨ ∃ g cap, v = .slice (some ⟨g, 0, none⟩) n cap ∧ B ≤ g ∧ n ≤ cap := by
  rcases h.2 with ⟨hv, hn⟩ | ⟨g, cap, cur, hv, hb, _, hnc, _⟩
  · exact .inl ⟨hv, hn, by have := h.1; rw [hn] at this; exact List.eq_nil_of_length_eq_zero (by simpa using this)⟩
  · exact .inr ⟨g, cap, hv, hb, hnc⟩
theorem owns_blk {w : World} {B : Nat} {e : TypeId} {size : Nat} {g n cap : Nat} {xs : List Value} (h : w.ownsRow B e size (.slice (some ⟨g, 0, none⟩) n cap) n xs) : ∃ cs, Blk w g e cs := by
  rcases h.2 with ⟨hv, _⟩ | ⟨g', cap', cur, hv, _, hg, _⟩
  · cases hv
  · injection hv with h1
    injection h1 with h1
    injection h1 with h1
    subst h1
    exact ⟨cur, hg⟩
theorem owns_some {w : World} {B : Nat} {e : TypeId} {size : Nat} {v : Value} {n : Nat} {xs : List Value} (h : w.ownsRow B e size v (n + 1) xs) : ∃ g cap, v = .slice (some ⟨g, 0, none⟩) (n + 1) cap := by
  rcases owns_form h with ⟨_, hn, _⟩ | ⟨g, cap, hv, _⟩
  · cases hn
  · exact ⟨g, cap, hv⟩
theorem owns_drewN {w : World} {B : Nat} {e : TypeId} {size : Nat} {v : Value} {n : Nat} {xs : List Value} (h : w.ownsRow B e size v n xs) (k : Nat) : (w.drewN k).ownsRow B e size v n xs := h
theorem owns_keep {w w' : World} {B : Nat} {e : TypeId} {size : Nat} {v : Value} {n : Nat} {xs : List Value} (h : w.ownsRow B e size v n xs) {S : Nat → Prop} (ht : Turns S w w') (hS : ∀ g, v.ownBlock = some g → ¬ S g) : w'.ownsRow B e size v n xs := by
  refine ⟨h.1, ?_⟩
  rcases h.2 with hn | ⟨g, cap, cur, rfl, hb, hgg, rest⟩
  · exact .inl hn
  · exact .inr ⟨g, cap, cur, rfl, hb, (ht.block g (Array.getElem?_eq_some_iff.1 hgg).1 (hS g rfl)).trans hgg, rest⟩
theorem owns_mono {w : World} {B B' : Nat} {e : TypeId} {size : Nat} {v : Value} {n : Nat} {xs : List Value} (h : w.ownsRow B e size v n xs) (hB : B' ≤ B) : w.ownsRow B' e size v n xs := by
  refine ⟨h.1, ?_⟩
  rcases h.2 with hn | ⟨g, cap, cur, hv, hb, rest⟩
  · exact .inl hn
  · exact .inr ⟨g, cap, cur, hv, by omega, rest⟩
theorem Turns.of_grown {w w' : World} {row : Option Nat} (h : w.grownBy w' row) : Turns (fun k => row = some k) w w' :=
  ⟨h.os, h.tape, h.output, h.size, fun k hk hs => h.block k hk (fun e => hs e.symm)⟩

theorem addr_add (g o j : Nat) : (⟨g, o, none⟩ : Addr).add j = ⟨g, o + j, none⟩ := by unfold Addr.add; split <;> simp_all

section
variable {P : Program}
theorem run_append_nil (w : World) (base : Nat) (t ty e : TypeId) (i : TypeInfo) (size : Nat) (ht : P.underlying t = some (.slice e)) (hi : P.info? e = some i)
    (v : Value) (n : Nat) (xs : List Value) (hown : w.ownsRow base e size v n xs) (c : Nat) : (Builtin.append_ #[t, t] ty #[v, .slice none 0 c]).run P w = .ok v w := by
  rcases hown.2 with ⟨rfl, rfl⟩ | ⟨g, cap, cur, rfl, _, _, hnc, _⟩
  · simp [Builtin.append_, run_underlying ht, sizeOf, typeInfo, hi, Builtin.lenOf, Builtin.firstCells]
  · simp [Builtin.append_, run_underlying ht, sizeOf, typeInfo, hi, Builtin.lenOf, Builtin.firstCells, hnc, storeCells]

/-- append onto a row of the call's own; the source may be nil, empty or not, its address any term -/
theorem wpList_append_src {w : World} {ops : Array Oper} {rest : List Oper} {o : Oper} {a : Act} {Q : Exit → Act → World → Prop} (hgd : o.guard = none) (s x : Operand) (t : TypeId)
    (ho : o.op = .call { callee := .builtin .append, args := #[s, x], argTypes := #[t, t] })
    (base : Nat) (e : TypeId) (i : TypeInfo) (z : Value) (size bytes : Nat) (ht : P.underlying t = some (.slice e)) (hi : P.info? e = some i) (hz : i.zero = some z)
    (hsize : i.size = size) (hby : i.bytes = bytes) (hzs : z.cells.size = size) (hsz : 0 < size)
    (v : Value) (n : Nat) (xs : List Value) (hs : a.eval s = v) (hown : w.ownsRow base e size v n xs)
    (A : Option Addr) (m c : Nat) (news : List Value) (hx : a.eval x = .slice A m c) (hl : news.length = m * size) (hnone : A = none → m = 0)
    (hnews : ∀ ad, A = some ad → ∀ j u, news[j]? = some u → w.cell? (ad.add j) = some u) (h1 : ∀ u ∈ news, u.oneCell' = true)
    (h63 : n + m ≤ maxLen) (hbytes : (n + m) * bytes ≤ 140737488355328) (hbase : base ≤ w.heap.size)
    (h : ∀ v' w', w'.ownsRow base e size v' (n + m) (xs ++ news) → w.grownBy w' v.ownBlock → wpList P ops Q rest (a.put o.dst v') w') : wpList P ops Q (o :: rest) a w := by
  cases A with
  | none =>
    have hm := hnone rfl
    subst hm
    have hn : news = [] := List.eq_nil_of_length_eq_zero (by simpa using hl)
    subst hn
    refine wpList_plain hgd fun K hK => ?_
    have hrun := run_append_nil (P := P) w base t o.type e i size ht hi v n xs hown c
    unfold Oper.wp
    simp [execOp, ho, resolve, invoke, builtin, hs, hx, hrun, Result.andThen]
    exact hK _ _ (h v w (by simpa using hown) (World.grownBy.refl w _))
  | some ad =>
    exact wpList_append_own w hgd s x t ho base e i z size bytes ht hi hz hsize hby hzs hsz v n xs hs hown ad m c news hx hl (hnews ad rfl) h1 h63 hbytes hbase
      fun v' w' h2 h3 _ => h v' w' h2 h3
end

section
variable {P : Program}
/-- 'xs[n:]': where it begins is left open but for what is wanted of it -/
theorem wpList_slice_lo {w : World} {ops : Array Oper} {rest : List Oper} {o : Oper} {a : Act} {Q : Exit → Act → World → Prop} (hgd : o.guard = none) (t e : TypeId) (x l : Operand)
    (ho : o.op = .slice t x (some l) none none) (g len cap n size : Nat) (kl : IntKind) (hx : a.eval x = .slice (some ⟨g, 0, none⟩) len cap) (hl : a.eval l = .int kl (n : Int))
    (ht : P.underlying t = some (.slice e)) (hi : (P.info? e).map (·.size) = some size) (hn : n ≤ len) (hc : len ≤ cap)
    (h : ∀ ad : Addr, (n < len → ad = ⟨g, n * size, none⟩) → wpList P ops Q rest (a.put o.dst (.slice (some ad) (len - n) (cap - n))) w) : wpList P ops Q (o :: rest) a w := by
  refine wpList_plain hgd fun K hK => ?_
  cases hq : P.info? e with
  | none => simp [hq] at hi
  | some i =>
    have hs : i.size = size := by simpa [hq] using hi
    have hel : P.elem t = e := by simp [Program.elem, ht]
    have ht' : P.underlying t = some (.slice (P.elem t)) := by rw [hel]; exact ht
    have hrun : (Instr.sliceAt t (.slice (some ⟨g, 0, none⟩) len cap) (some (.int kl (n : Int))) none none).run P w =
        .ok (.slice (if cap = n then some ⟨g, 0, none⟩ else some ⟨g, n * size, none⟩) (len - n) (cap - n)) w := by
      rw [run_sliceAt_slice w t _ _ _ _ ht', run_slice_l w t _ len cap ht' kl (n : Int) (by omega) (by omega), hel]
      simp only [sizeOf, typeInfo, Sem.run_bind, Sem.run_pure, Int.toNat_natCast, sliced, Option.map_some, addr_add, Nat.zero_add]
      simp [hq, hs]
    unfold Oper.wp
    simp only [execOp, ho, hx, hl, Option.map_some, Option.map_none, Sem.run_bind, hrun, Result.andThen_ok, Sem.run_pure]
    by_cases hcn : cap = n
    · rw [if_pos hcn]
      exact hK _ _ (h ⟨g, 0, none⟩ (fun hlt => by omega))
    · rw [if_neg hcn]
      exact hK _ _ (h ⟨g, n * size, none⟩ (fun _ => rfl))
end

theorem flat_one {α : Type} {f : α → List Value} (h : ∀ x, ∀ u ∈ f x, u.oneCell' = true) (l : List α) : ∀ u ∈ flat f l, u.oneCell' = true := by
  intro u hu
  obtain ⟨x, _, hx⟩ := List.mem_flatMap.1 hu
  exact h x u hx

/-- the cells of a row of elements, from one on -/
theorem owns_cells_from {α : Type} {f : α → List Value} {size : Nat} (hf : ∀ x, (f x).length = size) {w : World} {B : Nat} {e : TypeId} {g n cap : Nat} {l : List α}
    (h : w.ownsRow B e size (.slice (some ⟨g, 0, none⟩) n cap) n (flat f l)) (hn : n = l.length) (k m : Nat) (hm : k + m ≤ l.length) :
    ∀ j u, (flat f ((l.drop k).take m))[j]? = some u → w.cell? ⟨g, k * size + j, none⟩ = some u := by
  intro j u hu
  have hj : j < m * size := by
    have := (List.getElem?_eq_some_iff.1 hu).1
    rw [flat_length hf] at this
    simp at this
    refine Nat.lt_of_lt_of_le this (Nat.mul_le_mul_right _ ?_)
    omega
  have hlt : k * size + j < n * size := by
    rw [hn]
    have : (k + m) * size ≤ l.length * size := Nat.mul_le_mul_right _ hm
    rw [Nat.add_mul] at this
    omega
  rw [h.cellAt (k * size + j) hlt]
  rw [← flat_take hf, ← flat_drop hf, List.getElem?_take, if_pos hj, List.getElem?_drop] at hu
  exact hu

end Sk
end Go.Proofs.Ytoglklldclgcbaa
