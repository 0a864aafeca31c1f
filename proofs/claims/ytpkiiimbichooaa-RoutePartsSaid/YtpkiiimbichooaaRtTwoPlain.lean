/-
  Plain: the ends of two spans, in order, each once; where both have something.
-/
import Derived.Test.YtpkiiimbichooaaRtMeet
namespace Go.Proofs.Ytpkiiimbichooaa
open Go.RowKit Sk
namespace Rt

/-- a rising list, and one more -/
def withL (l : List ByteArray) (s : ByteArray) : List ByteArray := match hi id s l with
  | z :: _ => if (z.toList == s.toList) = true then l else lo id s l ++ s :: hi id s l
  | [] => l ++ [s]
theorem withL_asc {l : List ByteArray} (h : Asc l) (s : ByteArray) : Asc (withL l s) := by
  have hsp := lo_hi id s l
  have hs : Srt id l := h
  have hlo := lo_below id (key := s) (l := l)
  have hhi := hi_above id (key := s) hs
  unfold withL
  cases e : hi id s l with
  | nil =>
    rw [e, List.append_nil] at hsp
    rw [hsp] at hlo
    exact List.pairwise_append.2 ⟨h, List.pairwise_singleton _ _, fun a ha b hb => by rw [List.mem_singleton.1 hb]; exact hlo a ha⟩
  | cons z r =>
    by_cases hz : (z.toList == s.toList) = true
    · simp only [hz, if_true]; exact h
    · simp only [hz]
      rw [e] at hsp hhi
      have hl2 : Asc (lo id s l ++ z :: r) := by rw [hsp]; exact h
      obtain ⟨p1, p2, p3⟩ := List.pairwise_append.1 hl2
      have hsz : kl s z = true := by
        cases hk : kl s z with
        | true => rfl
        | false =>
          have : z = s := kl_total (hhi z (by simp)) hk
          rw [this] at hz; simp at hz
      refine List.pairwise_append.2 ⟨p1, List.pairwise_cons.2 ⟨fun y hy => ?_, p2⟩, fun a ha b hb => ?_⟩
      · rcases List.mem_cons.1 hy with rfl | hy
        · exact hsz
        · exact kl_trans hsz ((List.pairwise_cons.1 p2).1 y hy)
      · rcases List.mem_cons.1 hb with rfl | hb
        · exact hlo a ha
        · exact p3 a ha b hb
theorem mem_withL {l : List ByteArray} {s x : ByteArray} : x ∈ withL l s ↔ x = s ∨ x ∈ l := by
  have hsp := lo_hi id s l
  unfold withL
  cases e : hi id s l with
  | nil => simp; exact or_comm
  | cons z r =>
    by_cases hz : (z.toList == s.toList) = true
    · simp only [hz, if_true]
      have hzs := (keq_iff z s).1 hz
      have hm : s ∈ l := by rw [← hsp, e, hzs]; simp
      exact ⟨.inr, fun h => by rcases h with rfl | h; · exact hm
                               · exact h⟩
    · simp only [hz]
      rw [e] at hsp
      have hm : x ∈ l ↔ (x ∈ lo id s l ∨ x ∈ z :: r) := by
        have h := List.mem_append (s := lo id s l) (t := z :: r) (a := x)
        rw [hsp] at h
        exact h
      simp only [Bool.false_eq_true, if_false, List.mem_append]
      rw [hm, List.mem_cons (a := x) (b := s)]
      constructor
      · rintro (h | h | h)
        · exact .inr (.inl h)
        · exact .inl h
        · exact .inr (.inr h)
      · rintro (h | h | h)
        · exact .inr (.inl h)
        · exact .inl h
        · exact .inr (.inr h)
theorem withL_len (l : List ByteArray) (s : ByteArray) : (withL l s).length ≤ l.length + 1 := by
  have hsp := congrArg List.length (lo_hi id s l)
  rw [List.length_append] at hsp
  unfold withL
  cases e : hi id s l with
  | nil => simp
  | cons z r =>
    rw [e] at hsp
    by_cases hz : (z.toList == s.toList) = true
    · simp only [hz, if_true]; omega
    · simp only [hz, Bool.false_eq_true, if_false, List.length_append, List.length_cons] at *
      omega

/-- the ends of two spans -/
def ends2 (a b c d : ByteArray) : List ByteArray := withL (withL (withL (withL [] a) b) c) d
theorem ends2_asc (a b c d : ByteArray) : Asc (ends2 a b c d) := withL_asc (withL_asc (withL_asc (withL_asc List.Pairwise.nil a) b) c) d
theorem mem_ends2 {a b c d x : ByteArray} : x ∈ ends2 a b c d ↔ x = a ∨ x = b ∨ x = c ∨ x = d := by
  unfold ends2
  rw [mem_withL, mem_withL, mem_withL, mem_withL]
  constructor
  · rintro (h | h | h | h | h)
    · exact .inr (.inr (.inr h))
    · exact .inr (.inr (.inl h))
    · exact .inr (.inl h)
    · exact .inl h
    · cases h
  · rintro (h | h | h | h)
    · exact .inr (.inr (.inr (.inl h)))
    · exact .inr (.inr (.inl h))
    · exact .inr (.inl h)
    · exact .inl h
theorem ends2_len (a b c d : ByteArray) : (ends2 a b c d).length ≤ 4 := by
  unfold ends2
  have h1 := withL_len [] a
  have h2 := withL_len (withL [] a) b
  have h3 := withL_len (withL (withL [] a) b) c
  have h4 := withL_len (withL (withL (withL [] a) b) c) d
  simp at h1
  omega

/-- do both have it? -/
def has2 (a b c d key : ByteArray) : Bool := hs a b key && hs c d key
theorem has2_iff {a b c d key : ByteArray} : has2 a b c d key = true ↔ (le a key ∧ kl key b = true) ∧ le c key ∧ kl key d = true := by
  unfold has2 hs le
  simp only [Bool.and_eq_true, Bool.not_eq_true']

theorem asc_lt {L : List ByteArray} (h : Asc L) {i j : Nat} {x y : ByteArray} (hx : L[i]? = some x) (hy : L[j]? = some y) (hij : i < j) : kl x y = true := by
  obtain ⟨hi, rfl⟩ := List.getElem?_eq_some_iff.1 hx
  obtain ⟨hj, rfl⟩ := List.getElem?_eq_some_iff.1 hy
  exact List.pairwise_iff_getElem.1 h i j hi hj hij
theorem asc_inj {L : List ByteArray} (h : Asc L) {i j : Nat} {x : ByteArray} (hx : L[i]? = some x) (hy : L[j]? = some x) : i = j := by
  rcases Nat.lt_trichotomy i j with e | e | e
  · have := asc_lt h hx hy e; rw [kl_irrefl] at this; cases this
  · exact e
  · have := asc_lt h hy hx e; rw [kl_irrefl] at this; cases this
theorem asc_pos {L : List ByteArray} (h : Asc L) {i j : Nat} {x y : ByteArray} (hx : L[i]? = some x) (hy : L[j]? = some y) (hk : kl x y = true) : i < j := by
  rcases Nat.lt_trichotomy i j with e | e | e
  · exact e
  · subst e; rw [hx] at hy; injection hy with hy; rw [hy, kl_irrefl] at hk; cases hk
  · rw [kl_asymm (asc_lt h hy hx e)] at hk; cases hk
theorem mn_mem (b d : ByteArray) : mn b d = b ∨ mn b d = d := by
  rcases mn_cases b d with ⟨e, _⟩ | ⟨e, _⟩
  · exact .inr e
  · exact .inl e
theorem mx_mem (a c : ByteArray) : mx a c = a ∨ mx a c = c := by
  rcases mx_cases a c with ⟨e, _⟩ | ⟨e, _⟩
  · exact .inr e
  · exact .inl e

/-- where both have it, it begins at the greater begin, and ends at the lesser end -/
theorem two_at {a b c d x y : ByteArray} {i : Nat} (hx : (ends2 a b c d)[i]? = some x) (hy : (ends2 a b c d)[i + 1]? = some y) (hh : has2 a b c d x = true) : x = mx a c ∧ y = mn b d ∧ meets a b c d = true := by
  have hA := ends2_asc a b c d
  obtain ⟨⟨h1, h2⟩, h3, h4⟩ := has2_iff.1 hh
  have hxm := mem_ends2.1 (List.mem_of_getElem? hx)
  have ex : x = mx a c := by
    have key : ∀ z, x = z → (z = a ∨ z = c) → x = mx a c := by
      rintro z rfl (rfl | rfl)
      · rcases mx_cases x c with ⟨e, e2⟩ | ⟨e, _⟩
        · unfold le at h3; rw [e2] at h3; cases h3
        · exact e.symm
      · rcases mx_cases a x with ⟨e, _⟩ | ⟨e, e2⟩
        · exact e.symm
        · rw [e]; exact (kl_total e2 h1).symm
    rcases hxm with h | h | h | h
    · exact key a h (.inl rfl)
    · rw [h, kl_irrefl] at h2; cases h2
    · exact key c h (.inr rfl)
    · rw [h, kl_irrefl] at h4; cases h4
  have hm : meets a b c d = true := by
    unfold meets
    rw [← ex]
    rcases mn_mem b d with e | e <;> rw [e] <;> assumption
  refine ⟨ex, ?_, hm⟩
  have hmn : mn b d ∈ ends2 a b c d := mem_ends2.2 (by rcases mn_mem b d with e | e <;> rw [e] <;> simp)
  obtain ⟨j, hj⟩ := List.mem_iff_getElem?.1 hmn
  have hij : i < j := asc_pos hA hx hj (by unfold meets at hm; rw [ex]; exact hm)
  have hxy := asc_lt hA hx hy (Nat.lt_succ_self i)
  have hyj : le y (mn b d) := by
    by_cases e : i + 1 = j
    · rw [e] at hy; rw [hy] at hj; injection hj with hj; rw [hj]; exact le_refl _
    · exact le_of (asc_lt hA hy hj (by omega))
  have hyb := le_trans hyj (mn_le b d).1
  have hyd := le_trans hyj (mn_le b d).2
  have hym := mem_ends2.1 (List.mem_of_getElem? hy)
  rcases hym with h | h | h | h
  · unfold le at h1; rw [← h, hxy] at h1; cases h1
  · rw [h] at hyj ⊢
    rcases mn_cases b d with ⟨e, e2⟩ | ⟨e, _⟩
    · rw [e] at hyj; unfold le at hyj; rw [e2] at hyj; cases hyj
    · exact e.symm
  · unfold le at h3; rw [← h, hxy] at h3; cases h3
  · rw [h] at hyj ⊢
    rcases mn_cases b d with ⟨e, _⟩ | ⟨e, e2⟩
    · exact e.symm
    · rw [e] at hyj ⊢; exact kl_total e2 hyj
theorem two_some {a b c d : ByteArray} (hm : meets a b c d = true) : ∃ i x, i + 1 < (ends2 a b c d).length ∧ (ends2 a b c d)[i]? = some x ∧ has2 a b c d x = true := by
  have hA := ends2_asc a b c d
  obtain ⟨m1, m2, m3, m4⟩ := (meets_iff a b c d).1 hm
  have hmx : mx a c ∈ ends2 a b c d := mem_ends2.2 (by rcases mx_mem a c with e | e <;> rw [e] <;> simp)
  have hmn : mn b d ∈ ends2 a b c d := mem_ends2.2 (by rcases mn_mem b d with e | e <;> rw [e] <;> simp)
  obtain ⟨i, hi⟩ := List.mem_iff_getElem?.1 hmx
  obtain ⟨j, hj⟩ := List.mem_iff_getElem?.1 hmn
  have hij : i < j := asc_pos hA hi hj hm
  have hjl := (List.getElem?_eq_some_iff.1 hj).1
  refine ⟨i, mx a c, by omega, hi, has2_iff.2 ⟨⟨(le_mx a c).1, ?_⟩, (le_mx a c).2, ?_⟩⟩
  · rcases mx_mem a c with e | e <;> rw [e] <;> assumption
  · rcases mx_mem a c with e | e <;> rw [e] <;> assumption

end Rt
end Go.Proofs.Ytpkiiimbichooaa
