/-
  Plain: what two spans have in common; the parts of one key's span; spans.Of walked.
-/
import Derived.Test.YtpkiiimbichooaaRtKeysWalk
namespace Go.Proofs.Ytpkiiimbichooaa
open Go.RowKit Sk
namespace Rt

/-- not above -/
def le (a b : ByteArray) : Prop := kl b a = false
theorem le_refl (a : ByteArray) : le a a := kl_irrefl a
theorem le_of {a b : ByteArray} (h : kl a b = true) : le a b := kl_asymm h
theorem lt_of_le {a b c : ByteArray} (h : le a b) (h' : kl b c = true) : kl a c = true := kl_of_not h h'
theorem lt_le {a b c : ByteArray} (h : kl a b = true) (h' : le b c) : kl a c = true := by
  cases e : kl b c with
  | true => exact kl_trans h e
  | false => have : b = c := kl_total e h'; rw [← this]; exact h
theorem le_trans {a b c : ByteArray} (h : le a b) (h' : le b c) : le a c := by
  unfold le
  cases e : kl c a with
  | false => rfl
  | true => have := lt_le e h; unfold le at h'; rw [this] at h'; cases h'
theorem mx_cases (a c : ByteArray) : (mx a c = c ∧ kl a c = true) ∨ (mx a c = a ∧ kl a c = false) := by
  unfold mx; cases h : kl a c <;> simp
theorem mn_cases (b d : ByteArray) : (mn b d = d ∧ kl d b = true) ∨ (mn b d = b ∧ kl d b = false) := by
  unfold mn; cases h : kl d b <;> simp
theorem le_mx (a c : ByteArray) : le a (mx a c) ∧ le c (mx a c) := by
  rcases mx_cases a c with ⟨h, e⟩ | ⟨h, e⟩ <;> rw [h]
  · exact ⟨le_of e, le_refl _⟩
  · exact ⟨le_refl _, e⟩
theorem mn_le (b d : ByteArray) : le (mn b d) b ∧ le (mn b d) d := by
  rcases mn_cases b d with ⟨h, e⟩ | ⟨h, e⟩ <;> rw [h]
  · exact ⟨le_of e, le_refl _⟩
  · exact ⟨le_refl _, e⟩
theorem meets_iff (a b c d : ByteArray) : meets a b c d = true ↔ kl a b = true ∧ kl a d = true ∧ kl c b = true ∧ kl c d = true := by
  unfold meets
  constructor
  · intro h
    obtain ⟨h1, h2⟩ := le_mx a c
    obtain ⟨h3, h4⟩ := mn_le b d
    exact ⟨lt_le (lt_of_le h1 h) h3, lt_le (lt_of_le h1 h) h4, lt_le (lt_of_le h2 h) h3, lt_le (lt_of_le h2 h) h4⟩
  · rintro ⟨h1, h2, h3, h4⟩
    rcases mx_cases a c with ⟨e, _⟩ | ⟨e, _⟩ <;> rcases mn_cases b d with ⟨e', _⟩ | ⟨e', _⟩ <;> rw [e, e'] <;> assumption
/-- a key in what both have -/
theorem hs_both (a b c d key : ByteArray) : hs (mx a c) (mn b d) key = (hs a b key && hs c d key) := by
  have key1 : (kl key (mx a c) = false) ↔ (kl key a = false ∧ kl key c = false) := by
    constructor
    · intro h
      exact ⟨le_trans (le_mx a c).1 h, le_trans (le_mx a c).2 h⟩
    · rintro ⟨h1, h2⟩
      rcases mx_cases a c with ⟨e, _⟩ | ⟨e, _⟩ <;> rw [e] <;> assumption
  have key2 : (kl key (mn b d) = true) ↔ (kl key b = true ∧ kl key d = true) := by
    constructor
    · intro h
      exact ⟨lt_le h (mn_le b d).1, lt_le h (mn_le b d).2⟩
    · rintro ⟨h1, h2⟩
      rcases mn_cases b d with ⟨e, _⟩ | ⟨e, _⟩ <;> rw [e] <;> assumption
  unfold hs
  rw [Bool.eq_iff_iff]
  simp only [Bool.and_eq_true, Bool.not_eq_true']
  rw [key1, key2]
  constructor
  · rintro ⟨⟨a1, a2⟩, a3, a4⟩; exact ⟨⟨a1, a3⟩, a2, a4⟩
  · rintro ⟨⟨a1, a3⟩, a2, a4⟩; exact ⟨⟨a1, a2⟩, a3, a4⟩
theorem hs_meets {a b c d key : ByteArray} (h1 : hs a b key = true) (h2 : hs c d key = true) : meets a b c d = true := by
  unfold hs at h1 h2
  simp only [Bool.and_eq_true, Bool.not_eq_true'] at h1 h2
  rw [meets_iff]
  exact ⟨lt_of_le h1.1 h1.2, lt_of_le h1.1 h2.2, lt_of_le h2.1 h1.2, lt_of_le h2.1 h2.2⟩

theorem nxt_size (s : ByteArray) : (nxt s).size = s.size + 1 := by rw [← size_toList, nxt_toList, List.length_append, size_toList]; rfl
theorem nxt_eq (a : ByteArray) : a ++ (⟨#[0]⟩ : ByteArray) = nxt a := by
  apply toList_inj
  rw [nxt_toList, ByteArray.toList_eq, ByteArray.toList_eq, ByteArray.data_append]
  simp
/-- the span of one key has in a shard all or nothing -/
theorem meets_key (a b key : ByteArray) : meets a b key (nxt key) = hs a b key := by
  unfold hs
  rw [Bool.eq_iff_iff, meets_iff]
  simp only [Bool.and_eq_true, Bool.not_eq_true']
  constructor
  · rintro ⟨_, h2, h3, _⟩
    exact ⟨le_of_nxt h2, h3⟩
  · rintro ⟨h1, h2⟩
    exact ⟨lt_of_le h1 h2, kl_nxt_of h1, h2, kl_nxt key⟩
theorem both_key {a b key : ByteArray} (h : hs a b key = true) : mx a key = key ∧ mn b (nxt key) = nxt key := by
  unfold hs at h
  simp only [Bool.and_eq_true, Bool.not_eq_true'] at h
  refine ⟨?_, ?_⟩
  · rcases mx_cases a key with ⟨e, _⟩ | ⟨e, e2⟩
    · exact e
    · rw [e]; exact (kl_total e2 h.1)
  · rcases mn_cases b (nxt key) with ⟨e, _⟩ | ⟨e, e2⟩
    · exact e
    · rw [e]; exact kl_total (nxt_le h.2) e2
theorem flat_single {α : Type} (x : Nat → α) (s : Nat) : ∀ m, (List.range m).flatMap (fun i => if i = s then [x i] else []) = if s < m then [x s] else []
  | 0 => by simp
  | m + 1 => by
    rw [List.range_succ, List.flatMap_append, flat_single x s m]
    by_cases h : s < m
    · rw [if_pos h, if_pos (by omega)]
      simp [show ¬ m = s by omega]
    · rw [if_neg h]
      by_cases e : m = s
      · simp [e]
      · rw [if_neg (by omega)]; simp [e]
theorem parts_key {l : List ByteArray} (h : okB l = true) (n : Int) {key : ByteArray} (h1 : 1 ≤ key.size) (h2 : key.size ≤ 32) :
    partsTo (edges l) n key (nxt key) (l.length + 1) = [⟨shard (edges l) key, 1 + (shard (edges l) key : Int) % n, key, nxt key⟩] := by
  have hsh := (shard_in h h1 h2).1
  unfold partsTo
  have e : (List.range (l.length + 1)).flatMap (partOf (edges l) n key (nxt key)) =
      (List.range (l.length + 1)).flatMap (fun i => if i = shard (edges l) key then [(⟨i, 1 + (i : Int) % n, key, nxt key⟩ : Pt)] else []) := by
    rw [List.flatMap_def, List.flatMap_def]
    congr 1
    apply List.map_congr_left
    intro i hi
    rw [List.mem_range] at hi
    have hin : hs (ed (edges l) i) (ed (edges l) (i + 1)) key = decide (i = shard (edges l) key) := shard_iff h h1 h2 (i := i) (by omega)
    unfold partOf
    rw [meets_key]
    by_cases hh : i = shard (edges l) key
    · have hin2 : hs (ed (edges l) i) (ed (edges l) (i + 1)) key = true := by rw [hin]; simpa using hh
      obtain ⟨e1, e2⟩ := both_key hin2
      rw [if_pos hin2, if_pos hh, e1, e2]
    · rw [if_neg (by rw [hin]; simpa using hh), if_neg hh]
  rw [e, flat_single (fun i => (⟨i, 1 + (i : Int) % n, key, nxt key⟩ : Pt)), if_pos (by omega)]
theorem chk_key {key : ByteArray} (h : key.size ≤ 32) : chk key (nxt key) = 0 := by
  unfold chk
  rw [nxt_size, if_neg (by omega), if_pos (kl_nxt key)]

set_option maxHeartbeats 400000 in
theorem Of_long (key : ByteArray) (w : World) (h : 32 < key.size) :
    Calls Try.prog 26 #[.string key] w fun e w' => e = .returned (.tuple #[Sp em em, .int .i64 5]) ∧ Below w.heap.size w w' := by
  have hd : decide ((32 : Int) < (key.size : Int)) = true := by simp; omega
  go_enter Try.func26, Try.ntmps26
  go_wp2
  exact bodyPost_ret (v := .tuple #[Sp em em, .int .i64 5]) (by simp [results, Try.results26, go_sem]; rfl) rfl ⟨rfl, (Below.refl _ _).alloc (Nat.le_refl _) _⟩
set_option maxHeartbeats 400000 in
theorem Of_short (key : ByteArray) (w : World) (h : key.size ≤ 32) :
    Calls Try.prog 26 #[.string key] w fun e w' => e = .returned (.tuple #[Sp key (nxt key), .int .i64 0]) ∧ Below w.heap.size w w' := by
  have hd : decide ((32 : Int) < (key.size : Int)) = false := by simp; omega
  have hb1 : (key.size : Int) ≤ 8388608 := by omega
  have HN := Lib.hid (nxt_eq key)
  go_enter Try.func26, Try.ntmps26
  go_wp2
  exact bodyPost_ret (v := .tuple #[Sp key (key ++ ⟨#[0]⟩), .int .i64 0]) (by simp [results, Try.results26, go_sem]) rfl ⟨by rw [HN.out], (Below.refl _ _).alloc (Nat.le_refl _) _⟩

end Rt
end Go.Proofs.Ytpkiiimbichooaa
