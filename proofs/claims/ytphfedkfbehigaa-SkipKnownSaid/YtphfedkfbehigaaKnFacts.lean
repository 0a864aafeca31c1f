/-
  Facts for SkipKnown: a list of texts' lists told by its items; two hundred keys.
-/
import Derived.Test.YtphfedkfbehigaaAsk
import Derived.Test.YtphfedkfbehigaaSkLPutNew
import Derived.Test.YtphfedkfbehigaaSkLDrop
import Derived.Test.YtphfedkfbehigaaSkLStep
import Derived.Test.YtphfedkfbehigaaSkLLast
import Derived.Test.YtphfedkfbehigaaKnShelf
namespace Go.Proofs.Ytphfedkfbehigaa
open Go.RowKit Sk
namespace Kn
open St

/-- the list at L holds these items, in blocks at or beyond B -/
def LS (B : Nat) (w : World) (L : Nat) (items : List It) : Prop := ∃ H l, SkL.Is w L H l ∧ l.map Nd.i = items ∧ ∀ k ∈ own L H l, B ≤ k
theorem LS.below {B : Nat} {w w' : World} {L : Nat} {items : List It} (h : LS B w L items) (hb : Below w.heap.size w w') : LS B w' L items := by
  obtain ⟨H, l, h, e, k⟩ := h
  exact ⟨H, l, h.keep (S := fun _ => False) (Turns.of_below hb) (fun _ _ h => h), e, k⟩
theorem ls_new (w : World) (B : Nat) (hB : B ≤ w.heap.size) :
    Calls Try.prog 32 #[] w fun e w' => e = .returned (.pointer (some ⟨w.heap.size + 1, 0, none⟩)) ∧ LS B w' (w.heap.size + 1) [] ∧ Below w.heap.size w w' :=
  (SkL.New_any w).mono fun _ _ ⟨H, he, hb, hi, hh, _⟩ => ⟨he, ⟨H, [], hi, rfl, fun k hk => by
    simp only [own, blocks_cons, blocks_nil, List.mem_cons, List.not_mem_nil, or_false] at hk
    rcases hk with rfl | rfl <;> omega⟩, hb⟩
theorem ls_get (B L : Nat) (w : World) (key : ByteArray) (h : LS B w L []) :
    Calls Try.prog 33 #[.pointer (some ⟨L, 0, none⟩), .string key] w fun e w' => e = .returned (.tuple #[.slice none 0 0, .bool false]) ∧ Below w.heap.size w w' := by
  obtain ⟨H, l, h, e, _⟩ := h
  obtain rfl : l = [] := by simpa using e
  exact SkL.Get_none L key H [] w h rfl
theorem ls_len (B L : Nat) (w : World) (items : List It) (h : LS B w L items) :
    Calls Try.prog 34 #[.pointer (some ⟨L, 0, none⟩)] w fun e w' => e = .returned (.int .i64 items.length) ∧ w = w' := by
  obtain ⟨H, l, h, e, _⟩ := h
  have := SkL.Len_any L H l w h
  have e2 : l.length = items.length := by rw [← e]; simp
  rw [e2] at this
  exact this
theorem ls_drop (B L : Nat) (w : World) (key : ByteArray) (h : LS B w L []) :
    Calls Try.prog 35 #[.pointer (some ⟨L, 0, none⟩), .string key] w fun e w' => e = .returned (.bool false) ∧ Below w.heap.size w w' := by
  obtain ⟨H, l, h, e, _⟩ := h
  obtain rfl : l = [] := by simpa using e
  exact SkL.Drop_none L key H [] w h rfl
def keysI (m : Nat) (items : List It) : List ByteArray := (items.filter fun x => decide (m < x.s)).map It.k
theorem keysI_of (m : Nat) (l : List Nd) : keysOn m l = keysI m (l.map Nd.i) := by
  unfold keysOn keysI
  rw [List.filter_map, List.map_map]
  rfl
theorem ls_step (B L m : Nat) (w : World) (items : List It) (h : LS B w L items) (hm : m < 16) (hl : items.length ≤ 10) :
    Calls Try.prog 36 #[.pointer (some ⟨L, 0, none⟩), .int .i64 ((m : Int) + 1)] w fun e w' =>
      ∃ u, e = .returned u ∧ Sm.Strs w' u (keysI m items) ∧ (∀ g, u.ownBlock = some g → g < w'.heap.size) ∧ Below w.heap.size w w' := by
  obtain ⟨H, l, h, e, _⟩ := h
  refine (SkL.Step_in L H l m w h hm (by have : l.length = items.length := by rw [← e]; simp
                                         omega)).mono fun e' w' ⟨u, he, ho, hb⟩ => ⟨u, he, ?_, fun g hg => (ho.lt g hg).2, hb⟩
  rw [keysI_of, e] at ho
  exact Sm.Strs.of_owns ho
theorem ls_step_out (B L : Nat) (n : Int) (w : World) (items : List It) (h : LS B w L items) (hn : n < 1 ∨ 16 < n) :
    Calls Try.prog 36 #[.pointer (some ⟨L, 0, none⟩), .int .i64 n] w fun e w' => e = .returned (.slice none 0 0) ∧ w = w' := by
  obtain ⟨H, l, h, e, _⟩ := h
  exact SkL.Step_out L H l n w h hn
theorem ls_first (B L : Nat) (w : World) (items : List It) (key : ByteArray) (x : It) (r : List It) (h : LS B w L items) (hx : hi It.k key items = x :: r) :
    Calls Try.prog 38 #[.pointer (some ⟨L, 0, none⟩), .string key] w fun e w' => e = .returned (.tuple #[.string x.k, .bool true]) ∧ Below w.heap.size w w' := by
  obtain ⟨H, l, h, e, _⟩ := h
  rw [← e, hi_map] at hx
  cases hl : hi (fun y => It.k (Nd.i y)) key l with
  | nil => rw [hl] at hx; cases hx
  | cons N r2 =>
    rw [hl] at hx
    simp only [List.map_cons, List.cons.injEq] at hx
    have := SkL.First_some L key H N r2 l w h hl
    rw [hx.1] at this
    exact this
theorem ls_last (B L : Nat) (w : World) (items : List It) (x : It) (h : LS B w L items) (hx : items.getLast? = some x) :
    Calls Try.prog 39 #[.pointer (some ⟨L, 0, none⟩), .string ⟨#[]⟩] w fun e w' => e = .returned (.tuple #[.string x.k, .bool true]) ∧ Below w.heap.size w w' := by
  obtain ⟨H, l, h, e, _⟩ := h
  have := SkL.Last_all L H l w h
  rw [← e, List.getLast?_map] at hx
  cases hl : l.getLast? with
  | none => rw [hl] at hx; cases hx
  | some N =>
    rw [hl] at hx this
    simp only [Option.map_some, Option.some.injEq] at hx
    subst hx
    exact this
theorem ls_last_below (B L : Nat) (w : World) (items : List It) (key : ByteArray) (x : It) (h : LS B w L items) (ht : key ≠ ⟨#[]⟩) (hx : (lo It.k key items).getLast? = some x) :
    Calls Try.prog 39 #[.pointer (some ⟨L, 0, none⟩), .string key] w fun e w' => e = .returned (.tuple #[.string x.k, .bool true]) ∧ Below w.heap.size w w' := by
  obtain ⟨H, l, h, e, _⟩ := h
  have := SkL.Last_below L key H l w h ht
  rw [← e, lo_map, List.getLast?_map] at hx
  have e2 : lo (fun y => It.k (Nd.i y)) key l = lo ndk key l := rfl
  rw [e2] at hx
  cases hl : (lo ndk key l).getLast? with
  | none => rw [hl] at hx; cases hx
  | some N =>
    rw [hl] at hx this
    simp only [Option.map_some, Option.some.injEq] at hx
    subst hx
    exact this
theorem ls_put (B L : Nat) (w : World) (pre post : List It) (key : ByteArray) (va : Option Addr) (vl vc s : Nat) (h : LS B w L (pre ++ post)) (hB : B ≤ w.heap.size) (hs1 : 1 ≤ s) (hs2 : s ≤ 16)
    (hpre : ∀ y ∈ pre, kl y.k key = true) (hpost : ∀ y ∈ post, kl y.k key = false ∧ y.k ≠ key) (hlen : (pre ++ post).length ≤ 10) :
    Calls Try.prog 37 #[.pointer (some ⟨L, 0, none⟩), .string key, .slice va vl vc, .int .i64 s] w fun e w' => e = .returned (.bool true) ∧
      LS B w' L (pre ++ ⟨key, .slice va vl vc, s⟩ :: post) ∧ Below B w w' := by
  obtain ⟨H, l, h, e, hk⟩ := h
  obtain ⟨l1, l2, rfl, rfl, rfl⟩ := List.map_eq_append_iff.1 e
  have h1 : ∀ y ∈ l1, kl y.i.k key = true := fun y hy => hpre y.i (List.mem_map_of_mem hy)
  have h2 : ∀ y ∈ l2, kl y.i.k key = false := fun y hy => (hpost y.i (List.mem_map_of_mem hy)).1
  have hsk : seek ndk key (l1 ++ l2) = none := by
    unfold seek
    rw [(lo_eq ndk h1 h2).2]
    cases l2 with
    | nil => rfl
    | cons z r =>
      have := (hpost z.i (List.mem_map_of_mem (List.mem_cons_self))).2
      simp only [ndk, keq_false this]
      rfl
  refine (SkL.Put_new L H (l1 ++ l2) l1 l2 key va vl vc s w h hs1 hs2 rfl hsk h1 h2 (by simp at hlen ⊢; omega)).mono fun e' w' ⟨he, b, hb, hi', ht⟩ => ⟨he, ⟨H, _, hi', by simp, fun k hk2 => ?_⟩, ht.to_below hB fun k hk2 => ?_⟩
  · have : k = b ∨ k ∈ own L H (l1 ++ l2) := by
      unfold own at hk2 ⊢
      simp only [blocks_cons, blocks_append, List.mem_cons, List.mem_append] at hk2 ⊢
      rcases hk2 with h | h | h | h | h
      · exact .inr (.inl h)
      · exact .inr (.inr (.inl h))
      · exact .inr (.inr (.inr (.inl h)))
      · exact .inl h
      · exact .inr (.inr (.inr (.inr h)))
    rcases this with rfl | h
    · omega
    · exact hk k h
  · refine hk k ?_
    unfold own at hk2 ⊢
    simp only [blocks_cons, blocks_append, List.mem_cons, List.mem_append] at hk2 ⊢
    rcases hk2 with h | h | h
    · exact .inl h
    · exact .inr (.inl h)
    · exact .inr (.inr (.inl h))

/-! ### two hundred keys -/
def kk (c : Nat) : ByteArray := ⟨(Lib.repeatL (⟨#[107]⟩ : ByteArray).data.toList c).toArray⟩
theorem rep (c : Nat) : Lib.repeatL (⟨#[107]⟩ : ByteArray).data.toList c = List.replicate c 107 := by
  induction c with
  | zero => rfl
  | succ c ih => rw [List.replicate_succ, ← ih]; rfl
theorem kk_list (c : Nat) : (kk c).toList = List.replicate c 107 := by rw [ByteArray.toList_eq]; unfold kk; rw [rep]
theorem kk_size (c : Nat) : (kk c).size = c := by unfold kk; rw [rep]; simp [ByteArray.size]
theorem rep_lt : ∀ a b : Nat, Op.bytesLess (List.replicate a (107 : UInt8)) (List.replicate b 107) = decide (a < b)
  | 0, 0 => rfl
  | 0, b + 1 => by rw [List.replicate_succ]; simp [Op.bytesLess]
  | a + 1, 0 => by rw [List.replicate_succ]; simp [Op.bytesLess]
  | a + 1, b + 1 => by
    rw [List.replicate_succ, List.replicate_succ]
    have := rep_lt a b
    simp [Op.bytesLess, this]
theorem kk_lt (a b : Nat) : kl (kk a) (kk b) = decide (a < b) := by unfold kl; rw [kk_list, kk_list, rep_lt]
theorem kk_eq (a b : Nat) : ((kk a).toList == (kk b).toList) = decide (a = b) := by
  rw [kk_list, kk_list]
  by_cases h : a = b
  · subst h; simp
  · have : List.replicate a (107 : UInt8) ≠ List.replicate b 107 := fun e => h (by have := congrArg List.length e; simpa using this)
    rw [decide_eq_false h]
    exact beq_eq_false_iff_ne.2 this

def rw0 (i : Nat) : Row := ⟨kk (200 - i), i, 1 + i % 16⟩
def M : Nat → List Row
  | 0 => []
  | i + 1 => rw0 i :: M i
theorem M_len (i : Nat) : (M i).length = i := by induction i with
  | zero => rfl
  | succ i ih => simp [M, ih]
theorem hi_self (i : Nat) (h : i < 200) : hi Rf.It.k (kk (200 - i)) (M i) = M i ∧ lo Rf.It.k (kk (200 - i)) (M i) = [] ∧ seek Rf.It.k (kk (200 - i)) (M i) = none := by
  cases i with
  | zero => exact ⟨rfl, rfl, rfl⟩
  | succ j =>
    have e : kl (kk (200 - j)) (kk (200 - (j + 1))) = false := by rw [kk_lt]; simp; omega
    have e2 : ((kk (200 - j)).toList == (kk (200 - (j + 1))).toList) = false := by rw [kk_eq]; simp; omega
    generalize kk (200 - (j + 1)) = key at *
    refine ⟨?_, ?_, ?_⟩
    · simp [hi, M, rw0, e]
    · simp [lo, M, rw0, e]
    · have e3 : kk (200 - j) ≠ key := fun he => by rw [he] at e2; simp at e2
      unfold seek
      rw [show hi Rf.It.k key (M (j + 1)) = rw0 j :: M j by simp [hi, M, rw0, e]]
      show (if ((kk (200 - j)).toList == key.toList) = true then _ else _) = _
      rw [e2]
      rfl
theorem put_M (i : Nat) (h : i < 200) : putR (kk (200 - i)) i (1 + i % 16) (M i) = M (i + 1) := by
  obtain ⟨h1, h2, h3⟩ := hi_self i h
  unfold putR
  rw [h3, h1, h2]
  rfl
theorem hi_M (d : Nat) (h : d ≤ 76) : hi Rf.It.k (kk 77) (M (124 + d)) = M 124 := by
  induction d with
  | zero =>
    have e : kl (kk 77) (kk 77) = false := by rw [kk_lt]; simp
    show hi Rf.It.k (kk 77) (rw0 123 :: M 123) = rw0 123 :: M 123
    simp [hi, rw0, e]
  | succ d ih =>
    have e : kl (kk (200 - (124 + d))) (kk 77) = true := by rw [kk_lt]; simp; omega
    show hi Rf.It.k (kk 77) (rw0 (124 + d) :: M (124 + d)) = _
    rw [← ih (by omega)]
    simp [hi, rw0, e]
theorem lo_M (d : Nat) (h : d ≤ 75) : (lo Rf.It.k (kk 77) (M (125 + d))).getLast? = some (rw0 124) := by
  induction d with
  | zero =>
    have e : kl (kk (200 - 124)) (kk 77) = true := by rw [kk_lt]; rfl
    have e2 : kl (kk (200 - 123)) (kk 77) = false := by rw [kk_lt]; rfl
    show (lo Rf.It.k (kk 77) (rw0 124 :: rw0 123 :: M 123)).getLast? = _
    simp [lo, rw0, e, e2]
  | succ d ih =>
    have e : kl (kk (200 - (125 + d))) (kk 77) = true := by rw [kk_lt]; simp; omega
    show (lo Rf.It.k (kk 77) (rw0 (125 + d) :: M (125 + d))).getLast? = _
    have h2 := ih (by omega)
    have : lo Rf.It.k (kk 77) (rw0 (125 + d) :: M (125 + d)) = rw0 (125 + d) :: lo Rf.It.k (kk 77) (M (125 + d)) := by simp [lo, rw0, e]
    rw [this, List.getLast?_cons, h2]
    rfl
theorem get_M : getV (kk 77) (M 200) = 123 ∧ getB (kk 77) (M 200) = true := by
  have h := hi_M 76 (by omega)
  have e : ((kk 77).toList == (kk 77).toList) = true := by simp
  have hs : seek Rf.It.k (kk 77) (M 200) = some (rw0 123) := by
    unfold seek
    rw [show M 200 = M (124 + 76) from rfl, h]
    show (if ((rw0 123).k.toList == (kk 77).toList) = true then _ else _) = _
    exact if_pos e
  unfold getV getB
  rw [hs]
  exact ⟨rfl, rfl⟩
theorem last_M : lastV (kk 77) (M 200) = kk 76 ∧ lastB (kk 77) (M 200) = true := by
  have h := lo_M 75 (by omega)
  have e : (kk 77).toList.isEmpty = false := by rw [kk_list]; rfl
  unfold lastV lastB lastL
  rw [if_neg (by rw [e]; simp), show M 200 = M (125 + 75) from rfl, h]
  exact ⟨rfl, rfl⟩
theorem step_M : (Rf.stepKeys 16 (M 200)).length = 12 := by kernel_rfl

end Kn
end Go.Proofs.Ytphfedkfbehigaa
