/-
  Plain: the key right behind a key; First and Last, one key behind the other (SkipWalk).
-/
import Derived.Test.YtphfedkfbehigaaBackWalk
namespace Go.Proofs.Ytphfedkfbehigaa
open Go.RowKit Sk
namespace St

theorem bl_snoc : ∀ a : List UInt8, Op.bytesLess a (a ++ [0]) = true
  | [] => rfl
  | x :: a => by simp [Op.bytesLess, bl_snoc a]
theorem bl_gap : ∀ a b : List UInt8, Op.bytesLess a b = true → Op.bytesLess b (a ++ [0]) = false
  | _, [], h => by simp [Op.bytesLess] at h
  | [], y :: b, _ => by simp [Op.bytesLess]
  | x :: a, y :: b, h => by
    simp only [Op.bytesLess, Bool.or_eq_true, decide_eq_true_eq, Bool.and_eq_true, beq_iff_eq] at h
    simp only [List.cons_append, Op.bytesLess, Bool.or_eq_false_iff, decide_eq_false_iff_not, Bool.and_eq_false_iff, beq_eq_false_iff_ne]
    rcases h with h | ⟨rfl, h⟩
    · exact ⟨fun h' => absurd (UInt8.lt_trans h h') (UInt8.lt_irrefl _), .inl fun e => by subst e; exact UInt8.lt_irrefl _ h⟩
    · exact ⟨UInt8.lt_irrefl _, .inr (bl_gap a b h)⟩
def next (a : ByteArray) : ByteArray := a ++ ⟨#[0]⟩
theorem next_toList (a : ByteArray) : (next a).toList = a.toList ++ [0] := by
  unfold next
  rw [ByteArray.toList_eq, ByteArray.toList_eq]
  simp [ByteArray.data_append]
theorem kl_next (a : ByteArray) : kl a (next a) = true := by
  unfold kl; rw [next_toList]; exact bl_snoc _
theorem kl_gap {a b : ByteArray} (h : kl a b = true) : kl b (next a) = false := by
  unfold kl at h ⊢; rw [next_toList]; exact bl_gap _ _ h
theorem nil_list : (⟨#[]⟩ : ByteArray).toList = [] := by rw [ByteArray.toList_eq]
theorem kl_nil (a : ByteArray) : kl a ⟨#[]⟩ = false := by
  unfold kl
  rw [nil_list]
  cases a.toList <;> rfl

/-- where First is asked next, when k keys were told -/
def frm (rows : List Row) : Nat → ByteArray
  | 0 => ⟨#[]⟩
  | k + 1 => next (((rows[k]?).map Rf.It.k).getD ⟨#[]⟩)
theorem hi_frm {rows : List Row} (hs : Srt Rf.It.k rows) : ∀ {k : Nat}, k ≤ rows.length → hi Rf.It.k (frm rows k) rows = rows.drop k
  | 0, _ => by
    have := (lo_eq Rf.It.k (key := ⟨#[]⟩) (pre := []) (post := rows) (by simp) (fun z _ => kl_nil _)).2
    simpa [frm] using this
  | k + 1, hk => by
    have hget : rows[k]? = some rows[k] := List.getElem?_eq_getElem hk
    have e : frm rows (k + 1) = next rows[k].k := by simp [frm, hget]
    rw [e]
    have := lo_eq Rf.It.k (key := next rows[k].k) (pre := rows.take (k + 1)) (post := rows.drop (k + 1)) (by
      intro y hy
      obtain ⟨i, hi, rfl⟩ := List.getElem_of_mem hy
      rw [List.length_take] at hi
      rw [List.getElem_take]
      rcases Nat.lt_or_ge i k with hlt | hge
      · exact kl_trans (srt_at hs hlt (List.getElem?_eq_getElem _) hget) (kl_next _)
      · have : i = k := by omega
        subst this
        exact kl_next _) (by
      intro z hz
      obtain ⟨i, hi, rfl⟩ := List.getElem_of_mem hz
      rw [List.length_drop] at hi
      rw [List.getElem_drop]
      exact kl_gap (srt_at hs (i := k) (j := k + 1 + i) (by omega) hget (List.getElem?_eq_getElem _)))
    rw [List.take_append_drop] at this
    exact this.2
theorem first_frm {rows : List Row} (hs : Srt Rf.It.k rows) {k : Nat} {x : Row} (hx : rows[k]? = some x) : firstV (frm rows k) rows = x.k ∧ firstB (frm rows k) rows = true := by
  have hk := (List.getElem?_eq_some_iff.1 hx).1
  unfold firstV firstB
  rw [hi_frm hs (Nat.le_of_lt hk), List.head?_drop, hx]
  exact ⟨rfl, rfl⟩
theorem first_end {rows : List Row} (hs : Srt Rf.It.k rows) : firstB (frm rows rows.length) rows = false := by
  unfold firstB
  rw [hi_frm hs (Nat.le_refl _)]
  simp
theorem frm_succ {rows : List Row} {k : Nat} {x : Row} (hx : rows[k]? = some x) : frm rows (k + 1) = x.k ++ ⟨#[0]⟩ := by
  simp [frm, hx, next]

/-- where Last is asked next, when k keys were told -/
def tow (rows : List Row) : Nat → ByteArray
  | 0 => ⟨#[]⟩
  | k + 1 => ((rows[rows.length - (k + 1)]?).map Rf.It.k).getD ⟨#[]⟩
theorem tow_lo {rows : List Row} (hs : Srt Rf.It.k rows) {k : Nat} (hk : k + 1 ≤ rows.length) : lo Rf.It.k (tow rows (k + 1)) rows = rows.take (rows.length - (k + 1)) := by
  obtain ⟨j, hj⟩ : ∃ j, rows.length - (k + 1) = j := ⟨_, rfl⟩
  have hjl : j < rows.length := by omega
  have hget : rows[j]? = some rows[j] := List.getElem?_eq_getElem hjl
  have e : tow rows (k + 1) = rows[j].k := by simp [tow, hj, hget]
  rw [e, hj]
  have := lo_eq Rf.It.k (key := rows[j].k) (pre := rows.take j) (post := rows.drop j) (by
    intro y hy
    obtain ⟨i, hi, rfl⟩ := List.getElem_of_mem hy
    rw [List.length_take] at hi
    rw [List.getElem_take]
    exact srt_at hs (i := i) (j := j) (by omega) (List.getElem?_eq_getElem _) hget) (by
    intro z hz
    obtain ⟨i, hi, rfl⟩ := List.getElem_of_mem hz
    rw [List.length_drop] at hi
    rw [List.getElem_drop]
    rcases Nat.eq_zero_or_pos i with rfl | hp
    · exact kl_irrefl _
    · exact kl_asymm (srt_at hs (i := j) (j := j + i) (by omega) hget (List.getElem?_eq_getElem _)))
  rw [List.take_append_drop] at this
  exact this.1
theorem not_empty {a b : ByteArray} (h : kl a b = true) : b.toList.isEmpty = false := by
  cases e : b.toList with
  | nil =>
    unfold kl at h
    rw [e] at h
    cases a.toList <;> simp [Op.bytesLess] at h
  | cons _ _ => rfl
theorem tow_some {rows : List Row} (hs : Srt Rf.It.k rows) {k : Nat} (hk : k + 1 < rows.length) : (tow rows (k + 1)).toList.isEmpty = false := by
  obtain ⟨j, hj⟩ : ∃ j, rows.length - (k + 1) = j := ⟨_, rfl⟩
  have hget : rows[j]? = some rows[j] := List.getElem?_eq_getElem (by omega)
  have e : tow rows (k + 1) = rows[j].k := by simp [tow, hj, hget]
  rw [e]
  exact not_empty (srt_at hs (i := 0) (j := j) (by omega) (List.getElem?_eq_getElem (by omega)) hget)
theorem last_tow {rows : List Row} (hs : Srt Rf.It.k rows) {k : Nat} (hk : k < rows.length) {x : Row} (hx : rows[rows.length - (k + 1)]? = some x) : lastV (tow rows k) rows = x.k ∧ lastB (tow rows k) rows = true := by
  have e : lastL (tow rows k) rows = rows.take (rows.length - k) := by
    cases k with
    | zero => simp [lastL, tow]
    | succ k =>
      unfold lastL
      rw [tow_some hs (by omega), tow_lo hs (by omega)]
      simp
  have e2 : (rows.take (rows.length - k)).getLast? = some x := by
    rw [List.getLast?_eq_getElem?, List.length_take, Nat.min_eq_left (by omega), List.getElem?_take, if_pos (by omega)]
    rw [← hx]
    congr 1
  unfold lastV lastB
  rw [e, e2]
  exact ⟨rfl, rfl⟩
theorem last_end {rows : List Row} (hs : Srt Rf.It.k rows) : (tow rows rows.length).toList.isEmpty = false ∨ rows.length = 0 → lastB (tow rows rows.length) rows = false := by
  intro h
  cases hr : rows.length with
  | zero =>
    have : rows = [] := List.length_eq_zero_iff.1 hr
    subst this
    simp [lastB, lastL, tow]
  | succ n =>
    rw [hr] at h
    unfold lastB lastL
    have h1 : (tow rows (n + 1)).toList.isEmpty = false := by
      rcases h with h | h
      · exact h
      · cases h
    rw [h1, tow_lo hs (by omega), hr]
    simp
theorem tow_succ {rows : List Row} {k : Nat} {x : Row} (hx : rows[rows.length - (k + 1)]? = some x) : tow rows (k + 1) = x.k := by
  simp [tow, hx]
theorem take_keys {rows : List Row} {k : Nat} {x : Row} (hx : rows[k]? = some x) : (rows.take (k + 1)).map Rf.It.k = (rows.take k).map Rf.It.k ++ [x.k] := by
  obtain ⟨hk, rfl⟩ := List.getElem?_eq_some_iff.1 hx
  rw [List.take_succ_eq_append_getElem hk, List.map_append]
  rfl
theorem drop_keys {rows : List Row} {k : Nat} (hk : k < rows.length) {x : Row} (hx : rows[rows.length - (k + 1)]? = some x) : (rows.drop (rows.length - (k + 1))).map Rf.It.k = x.k :: (rows.drop (rows.length - k)).map Rf.It.k := by
  obtain ⟨hj, rfl⟩ := List.getElem?_eq_some_iff.1 hx
  rw [List.drop_eq_getElem_cons hj]
  rw [show rows.length - (k + 1) + 1 = rows.length - k by omega]
  rfl
theorem keys_mrows (P : ByteArray → Prop) (ds : List Deed) (hf : ∀ d ∈ ds, P d.key) : ∀ k, ∀ x ∈ mrows ds k, P x.k
  | 0 => fun x hx => by cases hx
  | k + 1 => by
    by_cases h : k < ds.length
    · rw [mrows_succ (List.getElem?_eq_getElem h)]
      unfold madeR
      intro x hx
      split at hx
      · exact keys_mrows P ds hf k x ((mem_dropR (srt_mrows ds k)).1 hx).1
      · rcases (mem_putR (srt_mrows ds k)).1 hx with rfl | hx
        · exact hf _ (List.getElem_mem h)
        · exact keys_mrows P ds hf k x hx.1
    · have : mrows ds (k + 1) = mrows ds k := by
        unfold mrows
        rw [List.take_of_length_le (by omega), List.take_of_length_le (by omega)]
      rw [this]
      exact keys_mrows P ds hf k

end St
end Go.Proofs.Ytphfedkfbehigaa
