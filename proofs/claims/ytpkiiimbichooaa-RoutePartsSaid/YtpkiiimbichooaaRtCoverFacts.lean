/-
  Plain: the parts of a span: which they are, their order, what they have of a key.
-/
import Derived.Test.YtpkiiimbichooaaRtMeet
namespace Go.Proofs.Ytpkiiimbichooaa
open Go.RowKit Sk
namespace Rt

theorem part_mem {E : List ByteArray} {n : Int} {F T : ByteArray} {i : Nat} {p : Pt} (h : p ∈ partOf E n F T i) : meets (ed E i) (ed E (i + 1)) F T = true ∧ p = ⟨i, 1 + (i : Int) % n, mx (ed E i) F, mn (ed E (i + 1)) T⟩ := by
  unfold partOf at h
  split at h
  · rename_i hm
    exact ⟨hm, by simpa using h⟩
  · cases h
theorem parts_mem {E : List ByteArray} {n : Int} {F T : ByteArray} {m : Nat} {p : Pt} (h : p ∈ partsTo E n F T m) :
    p.i < m ∧ meets (ed E p.i) (ed E (p.i + 1)) F T = true ∧ p.n = 1 + (p.i : Int) % n ∧ p.a = mx (ed E p.i) F ∧ p.b = mn (ed E (p.i + 1)) T := by
  unfold partsTo at h
  obtain ⟨i, hi, hp⟩ := List.mem_flatMap.1 h
  obtain ⟨hm, rfl⟩ := part_mem hp
  exact ⟨List.mem_range.1 hi, hm, rfl, rfl, rfl⟩
theorem parts_asc (E : List ByteArray) (n : Int) (F T : ByteArray) : ∀ m, (partsTo E n F T m).Pairwise fun p q => p.i < q.i
  | 0 => List.Pairwise.nil
  | m + 1 => by
    rw [partsTo_succ]
    refine List.pairwise_append.2 ⟨parts_asc E n F T m, ?_, ?_⟩
    · unfold partOf
      split
      · exact List.pairwise_singleton _ _
      · exact List.Pairwise.nil
    · intro p hp q hq
      have h1 := (parts_mem hp).1
      obtain ⟨_, rfl⟩ := part_mem hq
      exact h1
theorem parts_at {E : List ByteArray} {n : Int} {F T : ByteArray} {m j : Nat} {p q : Pt} (hp : (partsTo E n F T m)[j]? = some p) (hq : (partsTo E n F T m)[j + 1]? = some q) : p.i < q.i := by
  obtain ⟨hi, rfl⟩ := List.getElem?_eq_some_iff.1 hp
  obtain ⟨hj, rfl⟩ := List.getElem?_eq_some_iff.1 hq
  exact (List.pairwise_iff_getElem.1 (parts_asc E n F T m)) j (j + 1) hi hj (by omega)
theorem chk_sizes {F T : ByteArray} (h : chk F T = 0) : F.size ≤ 33 ∧ T.size ≤ 33 ∧ kl F T = true := by
  unfold chk at h
  split at h
  · cases h
  · split at h
    · rename_i h1 h2
      exact ⟨by omega, by omega, h2⟩
    · cases h
theorem mx_size {a c : ByteArray} {k : Nat} (h1 : a.size ≤ k) (h2 : c.size ≤ k) : (mx a c).size ≤ k := by
  rcases mx_cases a c with ⟨e, _⟩ | ⟨e, _⟩ <;> rw [e] <;> assumption
theorem mn_size {a c : ByteArray} {k : Nat} (h1 : a.size ≤ k) (h2 : c.size ≤ k) : (mn a c).size ≤ k := by
  rcases mn_cases a c with ⟨e, _⟩ | ⟨e, _⟩ <;> rw [e] <;> assumption
theorem part_chk {l : List ByteArray} (h : okB l = true) {n : Int} {F T : ByteArray} (hc : chk F T = 0) {m : Nat} {p : Pt} (hp : p ∈ partsTo (edges l) n F T m) : chk p.a p.b = 0 := by
  obtain ⟨_, hm, _, ha, hb⟩ := parts_mem hp
  obtain ⟨h1, h2, _⟩ := chk_sizes hc
  have a1 := mx_size (ed_size h p.i) h1
  have a2 := mn_size (ed_size h (p.i + 1)) h2
  rw [← ha] at a1
  rw [← hb] at a2
  unfold meets at hm
  rw [← ha, ← hb] at hm
  unfold chk
  rw [if_neg (by omega), if_pos hm]
theorem part_in {E : List ByteArray} {n : Int} {F T : ByteArray} {m : Nat} {p : Pt} (hp : p ∈ partsTo E n F T m) : kl p.a (ed E p.i) = false ∧ kl (ed E (p.i + 1)) p.b = false := by
  obtain ⟨_, _, _, ha, hb⟩ := parts_mem hp
  rw [ha, hb]
  exact ⟨(le_mx _ _).1, (mn_le _ _).1⟩

/-- the parts that have a key -/
def cntP (key : ByteArray) (ps : List Pt) : Nat := (ps.filter fun p => hs p.a p.b key).length
theorem cntP_take {key : ByteArray} {ps : List Pt} {k : Nat} {p : Pt} (hp : ps[k]? = some p) : cntP key (ps.take (k + 1)) = cntP key (ps.take k) + (if hs p.a p.b key = true then 1 else 0) := by
  unfold cntP
  obtain ⟨hk, rfl⟩ := List.getElem?_eq_some_iff.1 hp
  rw [List.take_succ_eq_append_getElem hk, List.filter_append, List.length_append]
  cases h : hs ps[k].a ps[k].b key <;> simp [h]
theorem cntP_le (key : ByteArray) (ps : List Pt) (k : Nat) : cntP key (ps.take k) ≤ ps.length := by
  unfold cntP
  exact Nat.le_trans (List.length_filter_le _ _) (by simp; omega)
theorem cover {l : List ByteArray} (h : okB l = true) (n : Int) (F T key : ByteArray) :
    cntP key (partsTo (edges l) n F T (l.length + 1)) = if (hs F T key && kl key top) = true then 1 else 0 := by
  have hlen := edges_length l
  have e : (partsTo (edges l) n F T (l.length + 1)).filter (fun p => hs p.a p.b key) =
      (List.range (l.length + 1)).flatMap (fun i => if (inn (edges l) i key && hs F T key) = true then [(⟨i, 1 + (i : Int) % n, mx (ed (edges l) i) F, mn (ed (edges l) (i + 1)) T⟩ : Pt)] else []) := by
    unfold partsTo
    rw [List.filter_flatMap, List.flatMap_def, List.flatMap_def]
    congr 1
    apply List.map_congr_left
    intro i _
    have hb := hs_both (ed (edges l) i) (ed (edges l) (i + 1)) F T key
    have hi : inn (edges l) i key = hs (ed (edges l) i) (ed (edges l) (i + 1)) key := rfl
    rw [hi, ← hb]
    unfold partOf
    by_cases hm : meets (ed (edges l) i) (ed (edges l) (i + 1)) F T = true
    · rw [if_pos hm]
      cases hx : hs (mx (ed (edges l) i) F) (mn (ed (edges l) (i + 1)) T) key <;> simp [hx]
    · rw [if_neg hm]
      cases hx : hs (mx (ed (edges l) i) F) (mn (ed (edges l) (i + 1)) T) key with
      | false => simp
      | true =>
        rw [hb] at hx
        simp only [Bool.and_eq_true] at hx
        exact absurd (hs_meets hx.1 hx.2) hm
  unfold cntP
  rw [e]
  cases hF : hs F T key with
  | false =>
    have e2 : (List.range (l.length + 1)).flatMap (fun i => if (inn (edges l) i key && false) = true then [(⟨i, 1 + (i : Int) % n, mx (ed (edges l) i) F, mn (ed (edges l) (i + 1)) T⟩ : Pt)] else []) = [] := by
      rw [List.flatMap_eq_nil_iff]
      intro i _
      simp
    rw [e2]
    simp
  | true =>
    cases ht : kl key top with
    | true =>
      obtain ⟨i0, hi0, hin⟩ := inn_some key ht
      have e2 : (List.range (l.length + 1)).flatMap (fun i => if (inn (edges l) i key && true) = true then [(⟨i, 1 + (i : Int) % n, mx (ed (edges l) i) F, mn (ed (edges l) (i + 1)) T⟩ : Pt)] else []) =
          (List.range (l.length + 1)).flatMap (fun i => if i = i0 then [(⟨i, 1 + (i : Int) % n, mx (ed (edges l) i) F, mn (ed (edges l) (i + 1)) T⟩ : Pt)] else []) := by
        rw [List.flatMap_def, List.flatMap_def]
        congr 1
        apply List.map_congr_left
        intro i hi
        rw [List.mem_range] at hi
        by_cases hh : i = i0
        · rw [if_pos hh, hh, hin]; rfl
        · rw [if_neg hh, if_neg]
          simp only [Bool.and_true]
          intro hx
          exact hh (inn_one (asc_edges h) (by omega) (by omega) hx hin)
      rw [e2, flat_single (fun i => (⟨i, 1 + (i : Int) % n, mx (ed (edges l) i) F, mn (ed (edges l) (i + 1)) T⟩ : Pt)), if_pos (by omega)]
      simp
    | false =>
      have e2 : (List.range (l.length + 1)).flatMap (fun i => if (inn (edges l) i key && true) = true then [(⟨i, 1 + (i : Int) % n, mx (ed (edges l) i) F, mn (ed (edges l) (i + 1)) T⟩ : Pt)] else []) = [] := by
        rw [List.flatMap_eq_nil_iff]
        intro i hi
        rw [List.mem_range] at hi
        rw [if_neg]
        simp only [Bool.and_true]
        intro hx
        rw [inn_top h (by omega) hx] at ht
        cases ht
      rw [e2]
      simp

end Rt
end Go.Proofs.Ytpkiiimbichooaa
