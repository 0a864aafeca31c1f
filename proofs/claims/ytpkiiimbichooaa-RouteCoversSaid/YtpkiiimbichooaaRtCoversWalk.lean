/-
  Walk: the law RouteCovers.
-/
import Derived.Test.YtpkiiimbichooaaRtCoverFacts
import Derived.Test.YtpkiiimbichooaaLater
namespace Go.Proofs.Ytpkiiimbichooaa
open Go.RowKit Sk
namespace Rt

set_option maxRecDepth 100000 in
set_option maxHeartbeats 2000000 in
/-- a plan that may not be -/
theorem covers_bad (A : Option Addr) (len cap : Nat) (l : List ByteArray) (n : Int) (F T key : ByteArray) (w : World) (hl : Strs w A len cap l) (hz : newE l n ≠ 0) :
    Calls Try.prog 4 #[.agg #[.slice A len cap, .int .i64 n], Sp F T, .string key] w fun e w' => e = .returned (.bool true) ∧ Below w.heap.size w w' := by
  have HL := Lib.hid hl
  have hd1 : decide (newE l n = 0) = false := by simpa using hz
  have hd2 : (newE l n != 0) = true := by simpa using hz
  have HZ := Lib.hid hz
  clear hl hz
  go_enter Try.func4, Try.ntmps4
  go_wp2_with fail
  refine (works_any _).mono ?_
  rintro e w1 ⟨rfl, hb⟩
  have H1 : Hid (Below w.heap.size w w1) := (((Below.refl _ _).alloc (Nat.le_refl _) _).alloc (by simp) _).trans (hb.mono (by simp; omega))
  have c0 : w1.cell? ⟨w.heap.size, 0, none⟩ = some (.slice A len cap) := (hb.cell (p := ⟨w.heap.size, 0, none⟩) (by simp; omega)).trans (by go_simp)
  have c1 : w1.cell? ⟨w.heap.size, 1, none⟩ = some (.int .i64 n) := (hb.cell (p := ⟨w.heap.size, 1, none⟩) (by simp; omega)).trans (by go_simp)
  have c2 : w1.cell? ⟨w.heap.size + 1, 0, none⟩ = some (.string F) := (hb.cell (p := ⟨w.heap.size + 1, 0, none⟩) (by simp)).trans (by go_simp)
  have c3 : w1.cell? ⟨w.heap.size + 1, 1, none⟩ = some (.string T) := (hb.cell (p := ⟨w.heap.size + 1, 1, none⟩) (by simp)).trans (by go_simp)
  have h2 := New_any A len cap l n w1 (HL.out.below H1.out)
  have H2 := Lib.hid (h2.mono (R' := fun e w' => e = .returned (.tuple #[.pointer none, .int .i64 (newE l n)]) ∧ w1 = w') fun e w' h => by
    rcases h with ⟨_, he, hw⟩ | ⟨h0, _⟩
    · exact ⟨he, hw⟩
    · exact absurd h0 HZ.out)
  clear h2 hb
  generalize newE l n = c at *
  go_wp2_with fail
  refine H2.out.mono ?_
  rintro e w' ⟨rfl, rfl⟩
  go_wp2
  go_ret
  exact ⟨rfl, H1.out⟩

set_option maxRecDepth 100000 in
set_option maxHeartbeats 2000000 in
/-- a span that may not be -/
theorem covers_none (A : Option Addr) (len cap : Nat) (l : List ByteArray) (n : Int) (F T key : ByteArray) (w : World) (hl : Strs w A len cap l) (hz : newE l n = 0) (hc : chk F T ≠ 0) :
    Calls Try.prog 4 #[.agg #[.slice A len cap, .int .i64 n], Sp F T, .string key] w fun e w' => e = .returned (.bool true) ∧ Below w.heap.size w w' := by
  have HL := Lib.hid hl
  obtain ⟨h6, hok, hn, hn4⟩ := newE_zero hz
  have HO := Lib.hid (And.intro h6 hok)
  have HC := Lib.hid hc
  have hd1 : decide (chk F T = 0) = false := by simpa using hc
  have hd2 : (chk F T != 0) = true := by simpa using hc
  have hd3 : (chk F T == chk F T) = true := by simp
  have HK := Lib.hid (Check_any F T)
  clear hl hz h6 hok hc
  go_enter Try.func4, Try.ntmps4
  go_wp2_with fail
  refine (works_any _).mono ?_
  rintro e w1 ⟨rfl, hb⟩
  have H1 : Hid (Below w.heap.size w w1) := (((Below.refl _ _).alloc (Nat.le_refl _) _).alloc (by simp) _).trans (hb.mono (by simp; omega))
  have c0 : w1.cell? ⟨w.heap.size, 0, none⟩ = some (.slice A len cap) := (hb.cell (p := ⟨w.heap.size, 0, none⟩) (by simp; omega)).trans (by go_simp)
  have c1 : w1.cell? ⟨w.heap.size, 1, none⟩ = some (.int .i64 n) := (hb.cell (p := ⟨w.heap.size, 1, none⟩) (by simp; omega)).trans (by go_simp)
  have c2 : w1.cell? ⟨w.heap.size + 1, 0, none⟩ = some (.string F) := (hb.cell (p := ⟨w.heap.size + 1, 0, none⟩) (by simp)).trans (by go_simp)
  have c3 : w1.cell? ⟨w.heap.size + 1, 1, none⟩ = some (.string T) := (hb.cell (p := ⟨w.heap.size + 1, 1, none⟩) (by simp)).trans (by go_simp)
  have H2 := Lib.hid (New_ok A len cap l n w1 (HL.out.below H1.out) HO.out.1 HO.out.2 hn hn4)
  clear hb
  go_wp2_with fail
  refine H2.out.mono ?_
  rintro e w2 ⟨R, rfl, hr, hb⟩
  have e0 : w2.cell? ⟨w.heap.size + 1, 0, none⟩ = some (.string F) := (hb.cell (p := ⟨w.heap.size + 1, 0, none⟩) (World.block_lt_of_cell? w1 _ c2)).trans c2
  have e1 : w2.cell? ⟨w.heap.size + 1, 1, none⟩ = some (.string T) := (hb.cell (p := ⟨w.heap.size + 1, 1, none⟩) (World.block_lt_of_cell? w1 _ c3)).trans c3
  have H3 := Lib.hid (Parts_bad hr hn F T HC.out)
  have HB := Lib.hid (H1.out.trans (hb.mono H1.out.size))
  generalize chk F T = c at *
  clear hr hb c0 c1 c2 c3
  go_wp2_with fail
  refine H3.out.mono ?_
  rintro e w3 ⟨rfl, hb⟩
  have HB3 := Lib.hid (HB.out.trans (hb.mono HB.out.size))
  have f0 : w3.cell? ⟨w.heap.size + 1, 0, none⟩ = some (.string F) := (hb.cell (p := ⟨w.heap.size + 1, 0, none⟩) (World.block_lt_of_cell? w2 _ e0)).trans e0
  have f1 : w3.cell? ⟨w.heap.size + 1, 1, none⟩ = some (.string T) := (hb.cell (p := ⟨w.heap.size + 1, 1, none⟩) (World.block_lt_of_cell? w2 _ e1)).trans e1
  clear hb e0 e1
  go_wp2_with fail
  refine (HK.out _).mono ?_
  rintro e w4 ⟨rfl, hb⟩
  have HB4 := Lib.hid (HB3.out.trans (hb.mono HB3.out.size))
  clear hb
  go_wp2
  go_ret
  exact ⟨rfl, HB4.out⟩

def CovRel (key : ByteArray) (ps : List Pt) (w : World) (cnt : Nat) (s11 s12 : Value) (w1 : World) : Prop :=
  ∃ k, k + cnt = ps.length ∧ s11 = .int .i64 (cntP key (ps.take k) : Nat) ∧ s12 = .int .i64 (k : Nat) ∧ Below w.heap.size w w1
theorem CovRel.next {key : ByteArray} {ps : List Pt} {w w1 : World} {k : Nat} {p : Pt} (hp : ps[k]? = some p) (hb : Below w.heap.size w w1) :
    CovRel key ps w (ps.length - (k + 1)) (.int .i64 ((cntP key (ps.take k) : Int) + (if hs p.a p.b key = true then 1 else 0))) (.int .i64 ((k : Int) + 1)) w1 := by
  refine ⟨k + 1, ?_, ?_, by simp, hb⟩
  · have := (List.getElem?_eq_some_iff.1 hp).1; omega
  · rw [cntP_take hp]
    split <;> simp

set_option maxRecDepth 100000 in
set_option maxHeartbeats 8000000 in
theorem covers_ok (A : Option Addr) (len cap : Nat) (l : List ByteArray) (n : Int) (F T key : ByteArray) (w : World) (hl : Strs w A len cap l) (hz : newE l n = 0) (hc : chk F T = 0) :
    Calls Try.prog 4 #[.agg #[.slice A len cap, .int .i64 n], Sp F T, .string key] w fun e w' => e = .returned (.bool true) ∧ Below w.heap.size w w' := by
  have HL := Lib.hid hl
  obtain ⟨h6, hok, hn, hn4⟩ := newE_zero hz
  have HO := Lib.hid (And.intro h6 hok)
  have hE : (edges l).length = (l.length + 1) + 1 := by rw [edges_length]
  have HE := Lib.hid hE
  have HC := Lib.hid hc
  have hm6 : l.length + 1 ≤ 6 := by omega
  have HCV := Lib.hid (cover hok n F T key)
  clear hl hz h6 hok hc hE
  go_enter Try.func4, Try.ntmps4
  go_wp2_with fail
  refine (works_any _).mono ?_
  rintro e w1 ⟨rfl, hb⟩
  have H1 : Hid (Below w.heap.size w w1) := (((Below.refl _ _).alloc (Nat.le_refl _) _).alloc (by simp) _).trans (hb.mono (by simp; omega))
  have c0 : w1.cell? ⟨w.heap.size, 0, none⟩ = some (.slice A len cap) := (hb.cell (p := ⟨w.heap.size, 0, none⟩) (by simp; omega)).trans (by go_simp)
  have c1 : w1.cell? ⟨w.heap.size, 1, none⟩ = some (.int .i64 n) := (hb.cell (p := ⟨w.heap.size, 1, none⟩) (by simp; omega)).trans (by go_simp)
  have c2 : w1.cell? ⟨w.heap.size + 1, 0, none⟩ = some (.string F) := (hb.cell (p := ⟨w.heap.size + 1, 0, none⟩) (by simp)).trans (by go_simp)
  have c3 : w1.cell? ⟨w.heap.size + 1, 1, none⟩ = some (.string T) := (hb.cell (p := ⟨w.heap.size + 1, 1, none⟩) (by simp)).trans (by go_simp)
  have H2 := Lib.hid (New_ok A len cap l n w1 (HL.out.below H1.out) HO.out.1 HO.out.2 hn hn4)
  clear hb
  go_wp2_with fail
  refine H2.out.mono ?_
  rintro e w2 ⟨R, rfl, hr, hb⟩
  have e0 : w2.cell? ⟨w.heap.size + 1, 0, none⟩ = some (.string F) := (hb.cell (p := ⟨w.heap.size + 1, 0, none⟩) (World.block_lt_of_cell? w1 _ c2)).trans c2
  have e1 : w2.cell? ⟨w.heap.size + 1, 1, none⟩ = some (.string T) := (hb.cell (p := ⟨w.heap.size + 1, 1, none⟩) (World.block_lt_of_cell? w1 _ c3)).trans c3
  have h3 := Parts_ok hr hn hn4 (by rw [HE.out]; omega) F T HC.out
  have em1 : (edges l).length - 1 = l.length + 1 := by rw [HE.out]; omega
  rw [em1] at h3
  have H3 := Lib.hid h3
  have HB := Lib.hid (H1.out.trans (hb.mono H1.out.size))
  have HR := Lib.hid hr
  clear hr hb c0 c1 c2 c3 h3 em1 H2
  go_wp2_with fail
  refine H3.out.mono ?_
  rintro e wc ⟨u, rfl, hown, hb⟩
  have HRC := Lib.hid (HR.out.below hb)
  have HBC := Lib.hid (HB.out.trans (hb.mono HB.out.size))
  have f0 : wc.cell? ⟨w.heap.size + 1, 0, none⟩ = some (.string F) := (hb.cell (p := ⟨w.heap.size + 1, 0, none⟩) (World.block_lt_of_cell? w2 _ e0)).trans e0
  have f1 : wc.cell? ⟨w.heap.size + 1, 1, none⟩ = some (.string T) := (hb.cell (p := ⟨w.heap.size + 1, 1, none⟩) (World.block_lt_of_cell? w2 _ e1)).trans e1
  obtain ⟨A4, c4, hu, _, hcs⟩ := hown.cells
  subst hu
  have HCS := Lib.hid hcs
  have HF01 := Lib.hid (And.intro f0 f1)
  have hl6 : (partsTo (edges l) n F T (l.length + 1)).length ≤ 6 := Nat.le_trans (partsTo_le _ _ _ _ _) hm6
  have HP : Hid (∀ p, p ∈ partsTo (edges l) n F T (l.length + 1) → p.i < l.length + 1 ∧ p.n = 1 + (p.i : Int) % n ∧ chk p.a p.b = 0 ∧ kl p.a (ed (edges l) p.i) = false ∧ kl (ed (edges l) (p.i + 1)) p.b = false) :=
    fun p hp => ⟨(parts_mem hp).1, (parts_mem hp).2.2.1, part_chk HO.out.2 HC.out hp, (part_in hp).1, (part_in hp).2⟩
  have HQ : Hid (∀ j p q, (partsTo (edges l) n F T (l.length + 1))[j]? = some p → (partsTo (edges l) n F T (l.length + 1))[j + 1]? = some q → p.i < q.i) := fun j p q hp hq => parts_at hp hq
  generalize partsTo (edges l) n F T (l.length + 1) = ps at *
  clear hb e0 e1 f0 f1 hown hcs HR H3
  go_wp2_with fail
  go_loopg [11, 12] ps.length (fun cnt s11 s12 wr => CovRel key ps wc cnt s11 s12 wr)
  case atStart => exact ⟨0, by omega, rfl, rfl, Below.refl _ _⟩
  case round =>
    obtain ⟨k, hk, rfl, rfl, hbel⟩ := hrel
    have HKK := Lib.hid hk
    have HBL := Lib.hid hbel
    by_cases hlt : k < ps.length
    · have hget := List.getElem?_eq_getElem hlt
      have hpm := HP.out _ (List.getElem_mem hlt)
      have HN : Hid (∀ w2, Below wc.heap.size wc w2 → CovRel key ps wc (ps.length - (k + 1)) (.int .i64 ((cntP key (ps.take k) : Int) + (if hs ps[k].a ps[k].b key = true then 1 else 0))) (.int .i64 ((k : Int) + 1)) w2) := fun w2 h => CovRel.next hget h
      have hcn : (cntP key (ps.take k) : Int) ≤ 6 := by have := cntP_le key ps k; omega
      have hprev : ∀ j, k = j + 1 → ∃ q, ps[j]? = some q ∧ q.i < ps[k].i := fun j hj => by
        subst hj
        have hq := List.getElem?_eq_getElem (l := ps) (i := j) (by omega)
        exact ⟨_, hq, HQ.out j _ _ hq hget⟩
      generalize cntP key (ps.take k) = many at *
      generalize ps[k] = p at *
      obtain ⟨q1, q2, q3, q4, q5⟩ := hpm
      obtain ⟨g, hA, gB, gl, p0, p1, p2, p3⟩ := HCS.out k p hget
      subst hA
      have kc := fun o => hbel.cell (p := ⟨g, o, none⟩) gl
      have gl2 : g < wr.heap.size := Nat.lt_of_lt_of_le gl hbel.size
      have r0 : wr.cell? ⟨g, k * 4, none⟩ = some (.int .i64 p.i) := (kc _).trans p0
      have r1 : wr.cell? ⟨g, k * 4 + 1, none⟩ = some (.int .i64 p.n) := (kc _).trans p1
      have r2 : wr.cell? ⟨g, k * 4 + 2, none⟩ = some (.string p.a) := (kc _).trans p2
      have r3 : wr.cell? ⟨g, k * 4 + 2 + 1, none⟩ = some (.string p.b) := (kc _).trans p3
      have hr := HRC.out.below hbel
      have H4 := Lib.hid (Span_m hr hn HE.out hm6 p.i q1)
      have H5 : Hid (∀ b, Below wr.heap.size wr b → Calls Try.prog 17 #[RP R, .int .i64 p.i] b fun e w' => e = .returned (.tuple #[.int .i64 p.n, .int .i64 0]) ∧ b = w') := fun b hb => by
        rw [q2]
        exact Node_m (hr.below hb) hn hn4 HE.out hm6 p.i q1
      have h6 := Check_any p.a p.b
      rw [q3] at h6
      have H6 := Lib.hid h6
      have H7 := Lib.hid (Has_any p.a p.b key)
      generalize ed (edges l) p.i = x at *
      generalize ed (edges l) (p.i + 1) = y at *
      generalize hs p.a p.b key = bb at *
      have t1 : Op.bytesLess p.a.toList x.toList = false := q4
      have t2 : (Op.bytesLess p.b.toList y.toList = true) ∨ (Op.bytesLess p.b.toList y.toList = false ∧ (p.b.toList == y.toList) = true) := by
        have := le_of_kl p.b y
        rw [q5] at this
        cases h : Op.bytesLess p.b.toList y.toList with
        | true => exact .inl rfl
        | false => rw [h] at this; exact .inr ⟨rfl, by simpa using this⟩
      have HG := Lib.hid (And.intro HP.out (And.intro HQ.out HCS.out))
      have l13 : wc.heap.size ≤ wr.heap.size := hbel.size
      have t3 : (p.n != p.n) = false := by simp
      have t4 : decide (p.n = p.n) = true := by simp
      have hbel2 : Hid (∀ o, wr.cell? ⟨g, o, none⟩ = wc.cell? ⟨g, o, none⟩) := fun o => hbel.cell (p := ⟨g, o, none⟩) gl
      clear hk hbel hr h6 kc p0 p1 p2 p3 q4 q5 q2 q3 HP HQ HCS
      rcases k with _ | j
      · have z0 : wr.cell? ⟨g, 0, none⟩ = some (.int .i64 p.i) := by simpa using r0
        have z1 : wr.cell? ⟨g, 1, none⟩ = some (.int .i64 p.n) := by simpa using r1
        have z2 : wr.cell? ⟨g, 2, none⟩ = some (.string p.a) := by simpa using r2
        have z3 : wr.cell? ⟨g, 3, none⟩ = some (.string p.b) := by simpa using r3
        have hN := HN.out
        have e0 : ((0 : Nat) : Int) + 1 = 1 := rfl
        rw [e0] at hN
        have HN2 := Lib.hid hN
        rcases t2 with u1 | ⟨u1, u2⟩
        all_goals
          clear hprev r0 r1 r2 r3 hN e0 HN hget
          go_wp2_with fail
          refine H4.out.mono ?_
          rintro e w3 ⟨rfl, hb3⟩
          have B3 := Lib.hid hb3
          have d0 : w3.cell? ⟨g, 0, none⟩ = some (.int .i64 p.i) := (hb3.cell (p := ⟨g, 0, none⟩) gl2).trans z0
          have d1 : w3.cell? ⟨g, 1, none⟩ = some (.int .i64 p.n) := (hb3.cell (p := ⟨g, 1, none⟩) gl2).trans z1
          have d2 : w3.cell? ⟨g, 2, none⟩ = some (.string p.a) := (hb3.cell (p := ⟨g, 2, none⟩) gl2).trans z2
          have d3 : w3.cell? ⟨g, 3, none⟩ = some (.string p.b) := (hb3.cell (p := ⟨g, 3, none⟩) gl2).trans z3
          have gl3 : g < w3.heap.size := Nat.lt_of_lt_of_le gl2 hb3.size
          have H5b := Lib.hid (H5.out (w3.alloc (.cells #[.string x, .string y] 34)) (hb3.trans (((Below.refl w3.heap.size w3).alloc (Nat.le_refl _) _).mono hb3.size)))
          clear hb3 z0 z1 z2 z3
          go_wp2_with fail
          refine H5b.out.mono ?_
          rintro e w' ⟨rfl, rfl⟩
          go_wp2
          have a1 := Lt.cell_later (w := w3.alloc (.cells #[.string x, .string y] 34)) (a := ⟨g, 1, none⟩) (v := .int .i64 p.n) (by go_simp)
          have a2 := Lt.cell_later (w := w3.alloc (.cells #[.string x, .string y] 34)) (a := ⟨g, 2, none⟩) (v := .string p.a) (by go_simp)
          have a3 := Lt.cell_later (w := w3.alloc (.cells #[.string x, .string y] 34)) (a := ⟨g, 3, none⟩) (v := .string p.b) (by go_simp)
          have a4 := Lt.cell_later (w := w3.alloc (.cells #[.string x, .string y] 34)) (a := ⟨w3.heap.size, 0, none⟩) (v := .string x) (by go_simp)
          have a5 := Lt.cell_later (w := w3.alloc (.cells #[.string x, .string y] 34)) (a := ⟨w3.heap.size, 1, none⟩) (v := .string y) (by go_simp)
          refine Lt.wp_region_later (by kernel_rfl) (by kernel_rfl) ?_
          repeat (go_big_quiet_step ((go_at_call 15; exact Lt.calls_later (H6.out _))))
          refine wpQuiet_nil ?_
          intro w5 hw'
          obtain ⟨⟨w5', hb5⟩, hw''⟩ := hw'
          have hw3 : w5 = w5' := hw''
          clear hw''
          subst hw3
          clear a1 a2 a3 a4 a5
          have B5 : Hid (Below wc.heap.size wc w5) := (HBL.out.trans ((B3.out.trans (((Below.refl w3.heap.size w3).alloc (Nat.le_refl _) _).mono B3.out.size)).mono HBL.out.size)).trans (hb5.mono (by have := B3.out.size; simp; omega))
          have g2 : w5.cell? ⟨g, 2, none⟩ = some (.string p.a) := (hb5.cell (p := ⟨g, 2, none⟩) (by simp; omega)).trans (by go_simp)
          have g3 : w5.cell? ⟨g, 3, none⟩ = some (.string p.b) := (hb5.cell (p := ⟨g, 3, none⟩) (by simp; omega)).trans (by go_simp)
          clear hb5 d0 d1 d2 d3
          go_wp2_with fail
          refine (H7.out _).mono ?_
          rintro e w6 ⟨rfl, hb6⟩
          have B6 := Lib.hid (B5.out.trans (hb6.mono B5.out.size))
          clear hb6 g2 g3
          cases bb
          all_goals
            go_wp2
            go_roundg (ps.length - 1)
            case measure => have := HKK.out; omega
            case rel => exact by simpa using HN2.out _ B6.out
      · obtain ⟨q, hq, hqi⟩ := hprev j rfl
        obtain ⟨g', hA', _, _, y0, _, _, _⟩ := HG.out.2.2 j q hq
        obtain rfl : g = g' := by simpa using hA'
        have s0 : wr.cell? ⟨g, j * 4, none⟩ = some (.int .i64 q.i) := (hbel2.out _).trans y0
        have hN := HN.out
        have e0 : ((j + 1 : Nat) : Int) + 1 = (j : Int) + 1 + 1 := by omega
        rw [e0] at hN
        have HN2 := Lib.hid hN
        have hw1 : IntKind.i64.wrap ((j : Int) + 1 - 1) = (j : Int) := by rw [IntWalk.i64_in _ (by omega)]; omega
        have hj1 : (j : Int) + 1 < (ps.length : Int) := by omega
        have hj2 : (j : Int) < (ps.length : Int) := by omega
        have hj3 : (0 : Int) < (j : Int) + 1 := by omega
        have hj4 : (0 : Int) ≤ (j : Int) := by omega
        have hj5 : (0 : Int) ≤ (j : Int) + 1 := by omega
        have hj6 : ((j : Int) + 1).toNat = j + 1 := by omega
        have hle : decide ((p.i : Int) ≤ (q.i : Int)) = false := by simp; omega
        have hle2 : decide (p.i ≤ q.i) = false := by simp; omega
        clear hprev hN e0 HN hget hq hqi hA' y0
        rcases t2 with u1 | ⟨u1, u2⟩
        all_goals
          go_wp2_with fail
          refine H4.out.mono ?_
          rintro e w3 ⟨rfl, hb3⟩
          have B3 := Lib.hid hb3
          have d0 : w3.cell? ⟨g, (j + 1) * 4, none⟩ = some (.int .i64 p.i) := (hb3.cell (p := ⟨g, (j + 1) * 4, none⟩) gl2).trans r0
          have d1 : w3.cell? ⟨g, (j + 1) * 4 + 1, none⟩ = some (.int .i64 p.n) := (hb3.cell (p := ⟨g, (j + 1) * 4 + 1, none⟩) gl2).trans r1
          have d2 : w3.cell? ⟨g, (j + 1) * 4 + 2, none⟩ = some (.string p.a) := (hb3.cell (p := ⟨g, (j + 1) * 4 + 2, none⟩) gl2).trans r2
          have d3 : w3.cell? ⟨g, (j + 1) * 4 + 2 + 1, none⟩ = some (.string p.b) := (hb3.cell (p := ⟨g, (j + 1) * 4 + 2 + 1, none⟩) gl2).trans r3
          have d4 : w3.cell? ⟨g, j * 4, none⟩ = some (.int .i64 q.i) := (hb3.cell (p := ⟨g, j * 4, none⟩) gl2).trans s0
          have gl3 : g < w3.heap.size := Nat.lt_of_lt_of_le gl2 hb3.size
          have H5b := Lib.hid (H5.out (w3.alloc (.cells #[.string x, .string y] 34)) (hb3.trans (((Below.refl w3.heap.size w3).alloc (Nat.le_refl _) _).mono hb3.size)))
          clear hb3 r0 r1 r2 r3 s0
          go_wp2_with fail
          refine H5b.out.mono ?_
          rintro e w' ⟨rfl, rfl⟩
          go_wp2
          have a1 := Lt.cell_later (w := w3.alloc (.cells #[.string x, .string y] 34)) (a := ⟨g, (j + 1) * 4 + 1, none⟩) (v := .int .i64 p.n) (by go_simp)
          have a2 := Lt.cell_later (w := w3.alloc (.cells #[.string x, .string y] 34)) (a := ⟨g, (j + 1) * 4 + 2, none⟩) (v := .string p.a) (by go_simp)
          have a3 := Lt.cell_later (w := w3.alloc (.cells #[.string x, .string y] 34)) (a := ⟨g, (j + 1) * 4 + 2 + 1, none⟩) (v := .string p.b) (by go_simp)
          have a4 := Lt.cell_later (w := w3.alloc (.cells #[.string x, .string y] 34)) (a := ⟨w3.heap.size, 0, none⟩) (v := .string x) (by go_simp)
          have a5 := Lt.cell_later (w := w3.alloc (.cells #[.string x, .string y] 34)) (a := ⟨w3.heap.size, 1, none⟩) (v := .string y) (by go_simp)
          have a6 := Lt.cell_later (w := w3.alloc (.cells #[.string x, .string y] 34)) (a := ⟨g, (j + 1) * 4, none⟩) (v := .int .i64 p.i) (by go_simp)
          have a7 := Lt.cell_later (w := w3.alloc (.cells #[.string x, .string y] 34)) (a := ⟨g, j * 4, none⟩) (v := .int .i64 q.i) (by go_simp)
          refine Lt.wp_region_later (by kernel_rfl) (by kernel_rfl) ?_
          repeat (go_big_quiet_step ((go_at_call 15; exact Lt.calls_later (H6.out _))))
          refine wpQuiet_nil ?_
          intro w5 hw'
          obtain ⟨⟨w5', hb5⟩, hw''⟩ := hw'
          have hw3 : w5 = w5' := hw''
          clear hw''
          subst hw3
          clear a1 a2 a3 a4 a5 a6 a7
          have B5 : Hid (Below wc.heap.size wc w5) := (HBL.out.trans ((B3.out.trans (((Below.refl w3.heap.size w3).alloc (Nat.le_refl _) _).mono B3.out.size)).mono HBL.out.size)).trans (hb5.mono (by have := B3.out.size; simp; omega))
          have g2 : w5.cell? ⟨g, (j + 1) * 4 + 2, none⟩ = some (.string p.a) := (hb5.cell (p := ⟨g, (j + 1) * 4 + 2, none⟩) (by simp; omega)).trans (by go_simp)
          have g3 : w5.cell? ⟨g, (j + 1) * 4 + 2 + 1, none⟩ = some (.string p.b) := (hb5.cell (p := ⟨g, (j + 1) * 4 + 2 + 1, none⟩) (by simp; omega)).trans (by go_simp)
          clear hb5 d0 d1 d2 d3 d4
          go_wp2_with fail
          refine (H7.out _).mono ?_
          rintro e w6 ⟨rfl, hb6⟩
          have B6 := Lib.hid (B5.out.trans (hb6.mono B5.out.size))
          clear hb6 g2 g3
          cases bb
          all_goals
            go_wp2
            go_roundg (ps.length - (j + 2))
            case measure => have := HKK.out; omega
            case rel => exact by simpa using HN2.out _ B6.out
    · have hkl : k = ps.length := by omega
      have ek : decide (k < ps.length) = false := by simp; omega
      have ek2 : decide ((k : Int) < (ps.length : Int)) = false := by simp; omega
      have HT : Hid ((cntP key (ps.take k) : Int) = if (hs F T key && kl key top) = true then 1 else 0) := by
        show _ = _
        rw [hkl, List.take_length, HCV.out]
        split <;> rfl
      have HF : Hid (Below w.heap.size w wr) := HBC.out.trans (hbel.mono HBC.out.size)
      have f0 : wr.cell? ⟨w.heap.size + 1, 0, none⟩ = some (.string F) := (hbel.cell (p := ⟨w.heap.size + 1, 0, none⟩) (World.block_lt_of_cell? wc _ HF01.out.1)).trans HF01.out.1
      have f1 : wr.cell? ⟨w.heap.size + 1, 1, none⟩ = some (.string T) := (hbel.cell (p := ⟨w.heap.size + 1, 1, none⟩) (World.block_lt_of_cell? wc _ HF01.out.2)).trans HF01.out.2
      have H7 := Lib.hid (Has_any F T key)
      rw [HT.out]
      generalize hs F T key = b1 at *
      clear hk hbel hlt hkl
      cases b1 with
      | false =>
        simp only [Bool.false_and, Bool.false_eq_true, if_false]
        go_wp2_with fail
        refine (H7.out _).mono ?_
        rintro e w3 ⟨rfl, hb3⟩
        have HF3 := Lib.hid (HF.out.trans (hb3.mono HF.out.size))
        clear hb3
        go_wp2
        go_ret
        exact ⟨rfl, HF3.out⟩
      | true =>
        simp only [Bool.true_and]
        cases ht : kl key top with
        | false =>
          have ht2 : Op.bytesLess key.toList top.toList = false := ht
          simp only [Bool.false_eq_true, if_false]
          clear ht
          go_wp2_with fail
          refine (H7.out _).mono ?_
          rintro e w3 ⟨rfl, hb3⟩
          have HF3 := Lib.hid (HF.out.trans (hb3.mono HF.out.size))
          clear hb3
          go_wp2_with fail
          refine (repeat_top _).mono ?_
          rintro e w4 ⟨rfl, hb4⟩
          have HF4 := Lib.hid (HF3.out.trans (hb4.mono HF3.out.size))
          clear hb4
          go_wp2
          go_ret
          exact ⟨rfl, HF4.out⟩
        | true =>
          have ht2 : Op.bytesLess key.toList top.toList = true := ht
          simp only [if_true]
          clear ht
          go_wp2_with fail
          refine (H7.out _).mono ?_
          rintro e w3 ⟨rfl, hb3⟩
          have HF3 := Lib.hid (HF.out.trans (hb3.mono HF.out.size))
          clear hb3
          go_wp2_with fail
          refine (repeat_top _).mono ?_
          rintro e w4 ⟨rfl, hb4⟩
          have HF4 := Lib.hid (HF3.out.trans (hb4.mono HF3.out.size))
          clear hb4
          go_wp2
          go_ret
          exact ⟨rfl, HF4.out⟩

theorem covers_walk (A : Option Addr) (len cap : Nat) (l : List ByteArray) (n : Int) (F T key : ByteArray) (w : World) (hl : Strs w A len cap l) :
    Calls Try.prog 4 #[.agg #[.slice A len cap, .int .i64 n], Sp F T, .string key] w fun e w' => e = .returned (.bool true) ∧ Below w.heap.size w w' := by
  by_cases hz : newE l n = 0
  · by_cases hc : chk F T = 0
    · exact covers_ok A len cap l n F T key w hl hz hc
    · exact covers_none A len cap l n F T key w hl hz hc
  · exact covers_bad A len cap l n F T key w hl hz

end Rt
end Go.Proofs.Ytpkiiimbichooaa
