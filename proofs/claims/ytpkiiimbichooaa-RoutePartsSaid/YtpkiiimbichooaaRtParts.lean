/-
  Walk: Parts of a route: of each shard that a span meets what both have.
-/
import Derived.Test.YtpkiiimbichooaaRtNew
import Derived.Test.YtpkiiimbichooaaFlat
import Derived.Deep.AppendLies
namespace Go.Proofs.Ytpkiiimbichooaa
open Go.RowKit Sk
namespace Rt

/-- a part: shard, node, from, to -/
structure Pt where
  i : Nat
  n : Int
  a : ByteArray
  b : ByteArray
def rcP (p : Pt) : List Value := [.int .i64 p.i, .int .i64 p.n, .string p.a, .string p.b]
theorem rcP_len (p : Pt) : (rcP p).length = 4 := rfl
theorem rcP_one : ∀ p : Pt, ∀ u ∈ rcP p, u.oneCell' = true := by
  intro p u hu
  simp only [rcP, List.mem_cons, List.not_mem_nil, or_false] at hu
  rcases hu with rfl | rfl | rfl | rfl <;> rfl

def partOf (E : List ByteArray) (n : Int) (F T : ByteArray) (i : Nat) : List Pt :=
  if meets (ed E i) (ed E (i + 1)) F T = true then [⟨i, 1 + (i : Int) % n, mx (ed E i) F, mn (ed E (i + 1)) T⟩] else []
def partsTo (E : List ByteArray) (n : Int) (F T : ByteArray) (k : Nat) : List Pt := (List.range k).flatMap (partOf E n F T)
theorem partsTo_succ (E : List ByteArray) (n : Int) (F T : ByteArray) (k : Nat) : partsTo E n F T (k + 1) = partsTo E n F T k ++ partOf E n F T k := by
  unfold partsTo
  rw [List.range_succ, List.flatMap_append]
  simp
theorem partsTo_le (E : List ByteArray) (n : Int) (F T : ByteArray) (k : Nat) : (partsTo E n F T k).length ≤ k := by
  induction k with
  | zero => simp [partsTo]
  | succ k ih =>
    rw [partsTo_succ, List.length_append]
    have : (partOf E n F T k).length ≤ 1 := by unfold partOf; split <;> simp
    omega

theorem part_info : (Try.prog.info? 45).map (fun i => (i.zero, i.size, i.bytes)) = some (some (.agg #[.int .i64 0, .int .i64 0, .string ⟨#[]⟩, .string ⟨#[]⟩]), 4, 48) := by kernel_rfl

/-- parts in a slice of the call's own -/
def Own (B : Nat) (w : World) (u : Value) (l : List Pt) : Prop := w.ownsRow B 45 4 u l.length (flat rcP l)

def PartsRel (E : List ByteArray) (n : Int) (F T : ByteArray) (w : World) (cnt : Nat) (s7 s19 : Value) (w1 : World) : Prop :=
  ∃ k v, v = s7 ∧ k + cnt = E.length - 1 ∧ s19 = .int .i64 (k : Nat) ∧ Own w.heap.size w1 v (partsTo E n F T k) ∧ Below w.heap.size w w1

theorem PartsRel.skip {E : List ByteArray} {n : Int} {F T : ByteArray} {w wr w1 : World} {k : Nat} {u : Value} (hk : k < E.length - 1) (hm : meets (ed E k) (ed E (k + 1)) F T = false)
    (hown : Own w.heap.size wr u (partsTo E n F T k)) (hbel : Below w.heap.size w wr) (hb : Below wr.heap.size wr w1) :
    PartsRel E n F T w (E.length - 1 - (k + 1)) u (.int .i64 ((k : Int) + 1)) w1 := by
  refine ⟨k + 1, _, rfl, by omega, by simp, ?_, hbel.trans (hb.mono hbel.size)⟩
  rw [partsTo_succ]
  have e : partOf E n F T k = [] := by unfold partOf; rw [hm]; rfl
  rw [e, List.append_nil]
  exact owns_keep hown (S := fun _ => False) (Turns.of_below hb) (fun _ _ h => h)
theorem PartsRel.take {E : List ByteArray} {n : Int} {F T : ByteArray} {w w1 w2 : World} {k : Nat} {u u2 : Value} (hk : k < E.length - 1) (hm : meets (ed E k) (ed E (k + 1)) F T = true)
    (hown : Own w.heap.size w1 u (partsTo E n F T k)) (hbel : Below w.heap.size w w1)
    (hown2 : w2.ownsRow w.heap.size 45 4 u2 ((partsTo E n F T k).length + 1) (flat rcP (partsTo E n F T k) ++ rcP ⟨k, 1 + (k : Int) % n, mx (ed E k) F, mn (ed E (k + 1)) T⟩))
    (hg : w1.grownBy w2 u.ownBlock) :
    PartsRel E n F T w (E.length - 1 - (k + 1)) u2 (.int .i64 ((k : Int) + 1)) w2 := by
  refine ⟨k + 1, _, rfl, by omega, by simp, ?_, hbel.grown hg hbel.size (fun j hj => (hown.lt j hj).1)⟩
  rw [partsTo_succ]
  have e : partOf E n F T k = [⟨k, 1 + (k : Int) % n, mx (ed E k) F, mn (ed E (k + 1)) T⟩] := by unfold partOf; rw [hm]; rfl
  rw [e]
  unfold Own
  rw [List.length_append, flat_append]
  simpa [flat] using hown2

theorem World.cell?_alloc_new_row (w : World) (l : List Value) (t : TypeId) (j : Nat) {u : Value} (hj : l[j]? = some u) : (w.alloc (.cells l.toArray t)).cell? ((⟨w.heap.size, 0, none⟩ : Addr).add j) = some u := by
  rw [addr_add, Nat.zero_add, World.cell?_alloc_new]
  simpa using hj

section
variable {B R : Nat} {E : List ByteArray} {n : Int} {w : World}
set_option maxHeartbeats 400000 in
theorem Parts_bad (h : Are B w R E n) (hn : 1 ≤ n) (F T : ByteArray) (hc : chk F T ≠ 0) :
    Calls Try.prog 18 #[RP R, Sp F T] w fun e w' => e = .returned (.tuple #[.slice none 0 0, .int .i64 (chk F T)]) ∧ Below w.heap.size w w' := by
  have hal := h.below ((Below.refl _ w).alloc (Nat.le_refl _) (.cells #[.string F, .string T] 34))
  have H1 := Lib.hid (none_no R n _ hal.n1 hn)
  have H2 := Lib.hid (Check_any F T (w.alloc (.cells #[.string F, .string T] 34)))
  have hd : decide (chk F T = 0) = false := by simpa using hc
  have hd2 : (chk F T != 0) = true := by simpa using hc
  generalize chk F T = c at *
  clear h hn hal
  go_enter Try.func18, Try.ntmps18
  go_wp2_with fail
  refine H1.out.mono ?_
  rintro e w' ⟨rfl, rfl⟩
  go_wp2_with fail
  refine H2.out.mono ?_
  rintro e w' ⟨rfl, hb⟩
  go_wp2
  go_ret2
  exact ⟨rfl, ((Below.refl _ _).alloc (Nat.le_refl _) _).trans (hb.mono (by simp))⟩

set_option maxRecDepth 100000 in
set_option maxHeartbeats 2000000 in
theorem Parts_ok (h : Are B w R E n) (hn : 1 ≤ n) (hn4 : n ≤ 4) (hE : 1 ≤ E.length ∧ E.length ≤ 7) (F T : ByteArray) (hc : chk F T = 0) :
    Calls Try.prog 18 #[RP R, Sp F T] w fun e w' => ∃ u, e = .returned (.tuple #[u, .int .i64 0]) ∧ Own w.heap.size w' u (partsTo E n F T (E.length - 1)) ∧ Below w.heap.size w w' := by
  obtain ⟨i0, hi0, hz0, hz1, hz2⟩ := info_parts part_info
  have HI := Lib.hid (And.intro hi0 (And.intro hz0 (And.intro hz1 hz2)))
  have hal := h.below ((Below.refl _ w).alloc (Nat.le_refl _) (.cells #[.string F, .string T] 34))
  have H1 := Lib.hid (none_no R n _ hal.n1 hn)
  have h2 := Check_any F T (w.alloc (.cells #[.string F, .string T] 34))
  rw [hc] at h2
  have H2 := Lib.hid h2
  have HAL := Lib.hid hal
  have HE := Lib.hid hE
  have hz : (n == 0) = false := by simp; omega
  clear h hal h2 hc hE hi0 hz0 hz1 hz2
  go_enter Try.func18, Try.ntmps18
  go_wp2_with fail
  refine H1.out.mono ?_
  rintro e w' ⟨rfl, rfl⟩
  go_wp2_with fail
  refine H2.out.mono ?_
  rintro e wc ⟨rfl, hb⟩
  have har := HAL.out.below hb
  obtain ⟨m, hm⟩ : ∃ m, m = E.length - 1 := ⟨_, rfl⟩
  have h3 := Shards_any har hn HE.out
  rw [← hm] at h3
  have H3 := Lib.hid h3
  have HM := Lib.hid hm
  clear h3 hm
  have cF : wc.cell? ⟨w.heap.size, 0, none⟩ = some (.string F) := (hb.cell (p := ⟨w.heap.size, 0, none⟩) (by simp)).trans (by go_simp)
  have cT : wc.cell? ⟨w.heap.size, 1, none⟩ = some (.string T) := (hb.cell (p := ⟨w.heap.size, 1, none⟩) (by simp)).trans (by go_simp)
  have HBW : Hid (Below w.heap.size w wc) := ((Below.refl _ _).alloc (Nat.le_refl _) _).trans (hb.mono (by simp))
  have lbx : w.heap.size < wc.heap.size := by have := hb.size; simp at this; omega
  have cN : wc.cell? ⟨R, 1, none⟩ = some (.int .i64 n) := har.n1
  obtain ⟨g, cap, cs, hIs⟩ := har
  have c0 : wc.cell? ⟨R, 0, none⟩ = some (.slice (some ⟨g, 0, none⟩) E.length cap) := hIs.hdr.cell 0
  have lR : R < wc.heap.size := hIs.hdr.lt
  have lg : g < wc.heap.size := hIs.row.lt
  have HIs := Lib.hid hIs
  have HC := Lib.hid (And.intro cF (And.intro cT (And.intro cN c0)))
  clear hb hIs cF cT cN c0
  go_wp2_with fail
  refine H3.out.mono ?_
  rintro e w' ⟨rfl, rfl⟩
  go_wp2_with fail
  go_loopg [7, 19] m (fun cnt s7 s19 w1 => PartsRel E n F T wc cnt s7 s19 w1)
  case atStart => exact ⟨0, _, rfl, by have := HM.out; omega, rfl, World.ownsRow_nil _ _ _ _, Below.refl _ _⟩
  case round =>
    obtain ⟨k, v7, rfl, hk, rfl, hown, hbel⟩ := hrel
    have HK := Lib.hid hk
    have HO := Lib.hid hown
    have HB := Lib.hid hbel
    have hk2 : k + gk = m := hk.trans HM.out.symm
    have hm := HM.out
    by_cases hlt : k < m
    · have lc := hbel.size
      have cF : wr.cell? ⟨w.heap.size, 0, none⟩ = some (.string F) := (hbel.cell (p := ⟨w.heap.size, 0, none⟩) lbx).trans HC.out.1
      have cT : wr.cell? ⟨w.heap.size, 1, none⟩ = some (.string T) := (hbel.cell (p := ⟨w.heap.size, 1, none⟩) lbx).trans HC.out.2.1
      have cN : wr.cell? ⟨R, 1, none⟩ = some (.int .i64 n) := (hbel.cell (p := ⟨R, 1, none⟩) lR).trans HC.out.2.2.1
      have c0 : wr.cell? ⟨R, 0, none⟩ = some (.slice (some ⟨g, 0, none⟩) E.length cap) := (hbel.cell (p := ⟨R, 0, none⟩) lR).trans HC.out.2.2.2
      have c1 : wr.cell? ⟨g, k, none⟩ = some (.string (ed E k)) := (hbel.cell (p := ⟨g, k, none⟩) lg).trans (HIs.out.edge (by omega))
      have c2 : wr.cell? ⟨g, k + 1, none⟩ = some (.string (ed E (k + 1))) := (hbel.cell (p := ⟨g, k + 1, none⟩) lg).trans (HIs.out.edge (by omega))
      have b3 : (k : Int) < (E.length : Int) := by omega
      have b4 : (k : Int) + 1 < (E.length : Int) := by omega
      have b5 : E.length ≤ 7 := HE.out.2
      have b6 : k ≤ 6 := by omega
      have hw1 : IntKind.i64.wrap ((k : Int) + 1) = (k : Int) + 1 := IntWalk.i64_in _ (by omega)
      have hw2 : (0 : Int) ≤ (k : Int) + 1 := by omega
      have hw3 : ((k : Int) + 1).toNat = k + 1 := by omega
      have hw4 : (0 : Int) ≤ (k : Int) := by omega
      have q1 : (0 : Int) ≤ (k : Int) % n := Int.emod_nonneg _ (by omega)
      have q2 : (k : Int) % n ≤ 3 := by have := Int.emod_lt_of_pos (k : Int) (show 0 < n by omega); omega
      have HW5 := Lib.hid (show IntKind.i64.wrap (1 + (k : Int) % n) = 1 + (k : Int) % n from IntWalk.i64_in _ (by omega))
      have lR2 : R < wr.heap.size := by omega
      have lg2 : g < wr.heap.size := by omega
      have lb2 : w.heap.size < wr.heap.size := by omega
      cases hmt : meets (ed E k) (ed E (k + 1)) F T with
      | false =>
        have HN : Hid (∀ w1, Below wr.heap.size wr w1 → PartsRel E n F T wc (E.length - 1 - (k + 1)) v7 (.int .i64 ((k : Int) + 1)) w1) := fun w1 hb => PartsRel.skip (by omega) hmt HO.out HB.out hb
        have H4 := Lib.hid (Meets_any (ed E k) (ed E (k + 1)) F T)
        rw [hmt] at H4
        generalize ed E k = x at *
        generalize ed E (k + 1) = y at *
        generalize E.length = len at *
        clear hmt hown hbel hk hk2 hm HIs
        go_wp2
        go_region_held3 (fun w' => w'.cell? ⟨R, 0, none⟩ = some (.slice (some ⟨g, 0, none⟩) len cap) ∧ w'.cell? ⟨g, k, none⟩ = some (.string x) ∧ w'.cell? ⟨g, k + 1, none⟩ = some (.string y)) (go_keep) (fail)
        go_wp2_with fail
        refine (H4.out _).mono ?_
        rintro e w3 ⟨rfl, hb3⟩
        have HB3 : Hid (Below wr.heap.size wr w3) := (((Below.refl _ wr).alloc (Nat.le_refl _) _).drew).trans (hb3.mono (by simp))
        clear hb3
        go_wp2
        go_roundg (len - 1 - (k + 1))
        case measure => have := HK.out; have := HM.out; omega
        case rel => exact HN.out _ HB3.out
      | true =>
        have hp9 : (partsTo E n F T k).length ≤ 6 := Nat.le_trans (partsTo_le _ _ _ _ _) b6
        have HN : Hid (∀ w1 w2 u2, Own wc.heap.size w1 v7 (partsTo E n F T k) → Below wc.heap.size wc w1 →
            w2.ownsRow wc.heap.size 45 4 u2 ((partsTo E n F T k).length + 1) (flat rcP (partsTo E n F T k) ++ rcP ⟨k, 1 + (k : Int) % n, mx (ed E k) F, mn (ed E (k + 1)) T⟩) → w1.grownBy w2 v7.ownBlock →
            PartsRel E n F T wc (E.length - 1 - (k + 1)) u2 (.int .i64 ((k : Int) + 1)) w2) := fun w1 w2 u2 h1 h2 h3 h4 => PartsRel.take (by omega) hmt h1 h2 h3 h4
        have H4 := Lib.hid (Meets_any (ed E k) (ed E (k + 1)) F T)
        rw [hmt] at H4
        have hx := fun (w : World) (ts : Array TypeId) (t : TypeId) => run_mx (P := Try.prog) w ts t (ed E k) F
        have hy := fun (w : World) (ts : Array TypeId) (t : TypeId) => run_mn (P := Try.prog) w ts t (ed E (k + 1)) T
        unfold Own at HO HN
        generalize partsTo E n F T k = ps at *
        generalize ed E k = x at *
        generalize ed E (k + 1) = y at *
        generalize E.length = len at *
        clear hmt hown hbel hk hk2 hm HIs
        go_wp2
        go_region_held3 (fun w' => w'.cell? ⟨R, 0, none⟩ = some (.slice (some ⟨g, 0, none⟩) len cap) ∧ w'.cell? ⟨g, k, none⟩ = some (.string x) ∧ w'.cell? ⟨g, k + 1, none⟩ = some (.string y)) (go_keep) (fail)
        go_wp2_with fail
        refine (H4.out _).mono ?_
        rintro e w3 ⟨rfl, hb3⟩
        have d1 : w3.cell? ⟨R, 1, none⟩ = some (.int .i64 n) := (hb3.cell (p := ⟨R, 1, none⟩) (by simp; omega)).trans (by go_simp)
        have d2 : w3.cell? ⟨w.heap.size, 0, none⟩ = some (.string F) := (hb3.cell (p := ⟨w.heap.size, 0, none⟩) (by simp; omega)).trans (by go_simp)
        have d3 : w3.cell? ⟨w.heap.size, 1, none⟩ = some (.string T) := (hb3.cell (p := ⟨w.heap.size, 1, none⟩) (by simp; omega)).trans (by go_simp)
        have d4 : w3.cell? ⟨wr.heap.size, 0, none⟩ = some (.string x) := (hb3.cell (p := ⟨wr.heap.size, 0, none⟩) (by simp)).trans (by go_simp)
        have d5 : w3.cell? ⟨wr.heap.size, 1, none⟩ = some (.string y) := (hb3.cell (p := ⟨wr.heap.size, 1, none⟩) (by simp)).trans (by go_simp)
        have HB3 : Hid (Below wr.heap.size wr w3) := (((Below.refl _ wr).alloc (Nat.le_refl _) _).drew).trans (hb3.mono (by simp))
        have HO3 : Hid (w3.ownsRow wc.heap.size 45 4 v7 ps.length (flat rcP ps)) := owns_keep HO.out (S := fun _ => False) (Turns.of_below HB3.out) (fun _ _ h => h)
        have HB4 : Hid (Below wc.heap.size wc w3) := HB.out.trans (HB3.out.mono HB.out.size)
        have l3 : wc.heap.size ≤ w3.heap.size := HB4.out.size
        have l4 : wr.heap.size + 1 ≤ w3.heap.size := by have := hb3.size; simp at this; omega
        have HNE : Hid (∀ b, b < wc.heap.size ∨ wr.heap.size ≤ b → some b ≠ v7.ownBlock) := fun b hb e => by
          have := World.ownsRow.lt HO.out b e.symm
          omega
        have hn0 : ¬ n = 0 := by omega
        have hrem : Int.tmod (k : Int) n = (k : Int) % n := Int.tmod_eq_emod_of_nonneg (by omega)
        have hw6 : IntKind.i64.wrap ((k : Int) % n) = (k : Int) % n := IntWalk.i64_in _ (by omega)
        have hw7 : IntKind.i64.wrap (1 + (k : Int) % n) = 1 + (k : Int) % n := HW5.out
        clear hb3 cF cT cN c0 c1 c2
        go_wp2
        go_region_held3 (fun w' => w'.cell? ⟨R, 1, none⟩ = some (.int .i64 n) ∧ w'.cell? ⟨w.heap.size, 0, none⟩ = some (.string F) ∧ w'.cell? ⟨w.heap.size, 1, none⟩ = some (.string T) ∧ w'.cell? ⟨wr.heap.size, 0, none⟩ = some (.string x) ∧ w'.cell? ⟨wr.heap.size, 1, none⟩ = some (.string y)) (first | go_keep | (go_split_ands; refine ⟨?_, ?_, ?_, ?_, ?_⟩ <;> (rw [hg7.cell_far _ (by simp; omega) (HNE.out _ (by first | exact .inl (by assumption) | exact .inr (Nat.le_refl _)))]; go_keep)))
          ((refine step_append_lies _ (by rfl) (.tmp 41) (.tmp 62) 41 (by rfl) wc.heap.size 45 i0 _ 4 48 Try.underlying41 HI.out.1 HI.out.2.1 HI.out.2.2.1 HI.out.2.2.2 rfl (by decide) v7 ps.length (flat rcP ps) (by rfl) (HO3.out.alloc _) ⟨w3.heap.size, 0, none⟩ 1 1 (rcP ⟨k, 1 + (k : Int) % n, mx x F, mn y T⟩) (by rfl) (by rfl) ?_ (rcP_one _) (by omega) (by unfold maxLen; omega) (by omega) (by simp; omega) _ (by rfl) ?_; (focus (intro j u hj; exact (World.cell?_alloc_new_row _ _ _ _ hj))); intro g7 c7 w7 hown7 hg7 hat7 hlt7))
        all_goals
          have HN2 := Lib.hid (HN.out _ _ _ (owns_drewN (HO3.out.alloc _) 1) (HB4.out.alloc l3 _).drew hown7 hg7)
          clear hown7 hg7
          go_wp2
          go_roundg (len - 1 - (k + 1))
          case measure => have := HK.out; have := HM.out; omega
          case rel => exact HN2.out
    · have ek : decide ((k : Int) < ((m : Nat) : Int)) = false := by simp; omega
      have hkm : k = m := by omega
      subst hkm
      have HF : Hid (Own w.heap.size wr v7 (partsTo E n F T (E.length - 1)) ∧ Below w.heap.size w wr) := by
        rw [← HM.out]
        exact ⟨owns_mono HO.out (Nat.le_of_lt lbx), HBW.out.trans (HB.out.mono HBW.out.size)⟩
      clear hown hbel hk hk2 hm hlt
      go_wp2
      go_ret2
      exact ⟨_, rfl, HF.out⟩
end

end Rt
end Go.Proofs.Ytpkiiimbichooaa
