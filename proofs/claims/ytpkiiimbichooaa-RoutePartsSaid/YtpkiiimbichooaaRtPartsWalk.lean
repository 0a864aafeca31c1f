/-
  Walk: the law RouteParts.
-/
import Derived.Test.YtpkiiimbichooaaRtPartsFacts
namespace Go.Proofs.Ytpkiiimbichooaa
open Go.RowKit Sk
namespace Rr
open Rt (Strs RP Sp edges ed newE isK okB em chk newE_zero str_info edges_length Pt rcP partsTo rcP_len)

set_option maxRecDepth 100000 in
set_option maxHeartbeats 2000000 in
/-- a plan that may not be -/
theorem lparts_bad (A : Option Addr) (len cap : Nat) (l : List ByteArray) (n : Int) (F T : ByteArray) (w : World) (hl : Strs w A len cap l) (hz : newE l n ≠ 0) :
    Calls Try.prog 5 #[.agg #[.slice A len cap, .int .i64 n], Sp F T] w fun e w' => e = .returned (.bool true) ∧ Below w.heap.size w w' := by
  have HL := Lib.hid hl
  have hd1 : decide (newE l n = 0) = false := by simpa using hz
  have hd2 : (newE l n != 0) = true := by simpa using hz
  have hd3 : (newE l n != newE l n) = false := by simp
  have hd4 : (newE l n == newE l n) = true := by simp
  have HZ := Lib.hid hz
  have hb0 : Below w.heap.size w ((w.alloc (.cells #[.slice A len cap, .int .i64 n] 24)).alloc (.cells #[.string F, .string T] 34)) := (((Below.refl _ _).alloc (Nat.le_refl _) _).alloc (by simp) _)
  have HB0 := Lib.hid hb0
  have h2 := Rt.New_any A len cap l n _ (hl.below hb0)
  have H2 := Lib.hid (h2.mono (R' := fun e w' => e = .returned (.tuple #[.pointer none, .int .i64 (newE l n)]) ∧ _ = w') fun e w' h => by
    rcases h with ⟨_, he, hw⟩ | ⟨h0, _⟩
    · exact ⟨he, hw⟩
    · exact absurd h0 HZ.out)
  have h3 := New_any A len cap l n _ (hl.below hb0)
  have H3 := Lib.hid (h3.mono (R' := fun e w' => e = .returned (.tuple #[.pointer none, .int .i64 (newE l n)]) ∧ Below _ _ w') fun e w' h => by
    rcases h with ⟨_, he, hw⟩ | ⟨h0, _⟩
    · exact ⟨he, hw⟩
    · exact absurd h0 HZ.out)
  clear h2 h3 hl hz hb0
  generalize newE l n = c at *
  go_enter Try.func5, Try.ntmps5
  go_wp2_with fail
  refine H2.out.mono ?_
  rintro e w' ⟨rfl, rfl⟩
  go_wp2_with fail
  refine H3.out.mono ?_
  rintro e wc ⟨rfl, hb⟩
  have HBC := Lib.hid (HB0.out.trans (hb.mono HB0.out.size))
  clear hb
  go_wp2_with fail
  refine (Rt.works_any _).mono ?_
  rintro e w4 ⟨rfl, hb⟩
  have HF := Lib.hid (HBC.out.trans (hb.mono HBC.out.size))
  clear hb
  go_wp2
  go_ret
  exact ⟨rfl, HF.out⟩

set_option maxRecDepth 100000 in
set_option maxHeartbeats 4000000 in
theorem lparts_no (A : Option Addr) (len cap : Nat) (l : List ByteArray) (n : Int) (F T : ByteArray) (w : World) (hl : Strs w A len cap l) (hz : newE l n = 0) (hc : chk F T ≠ 0) :
    Calls Try.prog 5 #[.agg #[.slice A len cap, .int .i64 n], Sp F T] w fun e w' => e = .returned (.bool true) ∧ Below w.heap.size w w' := by
  have HL := Lib.hid hl
  obtain ⟨h6, hok, hn, hn4⟩ := newE_zero hz
  have HO := Lib.hid (And.intro h6 hok)
  have hb0 : Below w.heap.size w ((w.alloc (.cells #[.slice A len cap, .int .i64 n] 24)).alloc (.cells #[.string F, .string T] 34)) := (((Below.refl _ _).alloc (Nat.le_refl _) _).alloc (by simp) _)
  have HB0 := Lib.hid hb0
  have H2 := Lib.hid (Rt.New_ok A len cap l n _ (hl.below hb0) h6 hok hn hn4)
  have HCN := Lib.hid hc
  clear hl hz h6 hok hb0
  go_enter Try.func5, Try.ntmps5
  go_wp2_with fail
  refine H2.out.mono ?_
  rintro e w2 ⟨R, rfl, hr, hb⟩
  have H3 := Lib.hid (New_ok A len cap l n w2 ((HL.out.below HB0.out).below hb) HO.out.1 HO.out.2 hn hn4)
  have e0 : w2.cell? ⟨w.heap.size, 0, none⟩ = some (.slice A len cap) := (hb.cell (p := ⟨w.heap.size, 0, none⟩) (by simp; omega)).trans (by go_simp)
  have e1 : w2.cell? ⟨w.heap.size, 1, none⟩ = some (.int .i64 n) := (hb.cell (p := ⟨w.heap.size, 1, none⟩) (by simp; omega)).trans (by go_simp)
  have e2 : w2.cell? ⟨w.heap.size + 1, 0, none⟩ = some (.string F) := (hb.cell (p := ⟨w.heap.size + 1, 0, none⟩) (by simp)).trans (by go_simp)
  have e3 : w2.cell? ⟨w.heap.size + 1, 1, none⟩ = some (.string T) := (hb.cell (p := ⟨w.heap.size + 1, 1, none⟩) (by simp)).trans (by go_simp)
  have HB2 := Lib.hid (HB0.out.trans (hb.mono HB0.out.size))
  have HR2 := Lib.hid hr
  have l2 : w.heap.size + 1 < w2.heap.size := World.block_lt_of_cell? w2 _ e2
  clear hr hb
  go_wp2_with fail
  refine H3.out.mono ?_
  rintro e wc ⟨p, rfl, hr, hb⟩
  have f2 : wc.cell? ⟨w.heap.size + 1, 0, none⟩ = some (.string F) := (hb.cell (p := ⟨w.heap.size + 1, 0, none⟩) l2).trans e2
  have f3 : wc.cell? ⟨w.heap.size + 1, 1, none⟩ = some (.string T) := (hb.cell (p := ⟨w.heap.size + 1, 1, none⟩) l2).trans e3
  have HB3 := Lib.hid (HB2.out.trans (hb.mono HB2.out.size))
  have HRA := Lib.hid (HR2.out.below hb)
  have H4 := Lib.hid (Rt.Parts_bad HRA.out hn F T HCN.out)
  have l3 : w.heap.size + 1 < wc.heap.size := World.block_lt_of_cell? wc _ f2
  clear hr hb e0 e1 e2 e3 H2 H3 HR2
  have HPB := Lib.hid (fun (w : World) => RParts_bad (p := p) (w := w) F T HCN.out)
  have HPA := Lib.hid (fun (wx : World) (hx : Below wc.heap.size wc wx) => Rt.Parts_bad (HRA.out.below hx) hn F T HCN.out)
  generalize chk F T = c at *
  have t1 : (c != c) = false := by simp
  have t2 : (c == c) = true := by simp
  clear H4 hc
  go_wp2_with fail
  refine (HPA.out wc (Below.refl _ _)).mono ?_
  rintro e w5 ⟨rfl, hb⟩
  have g2 : w5.cell? ⟨w.heap.size + 1, 0, none⟩ = some (.string F) := (hb.cell (p := ⟨w.heap.size + 1, 0, none⟩) l3).trans f2
  have g3 : w5.cell? ⟨w.heap.size + 1, 1, none⟩ = some (.string T) := (hb.cell (p := ⟨w.heap.size + 1, 1, none⟩) l3).trans f3
  have HB5 := Lib.hid hb
  have l5 : w.heap.size + 1 < w5.heap.size := World.block_lt_of_cell? w5 _ g2
  clear hb f2 f3
  go_wp2_with fail
  refine (HPB.out _).mono ?_
  rintro e w6 ⟨rfl, hb⟩
  have i2 : w6.cell? ⟨w.heap.size + 1, 0, none⟩ = some (.string F) := (hb.cell (p := ⟨w.heap.size + 1, 0, none⟩) l5).trans g2
  have i3 : w6.cell? ⟨w.heap.size + 1, 1, none⟩ = some (.string T) := (hb.cell (p := ⟨w.heap.size + 1, 1, none⟩) l5).trans g3
  have HB6 := Lib.hid (HB5.out.trans (hb.mono HB5.out.size))
  clear hb g2 g3
  go_wp2
  go_loopg [13] 0 (fun cnt s w1 => P2Rel 0 w6 cnt s w1)
  case atStart => exact ⟨0, rfl, rfl, Below.refl _ _⟩
  case round =>
    obtain ⟨k, hk, rfl, hbel⟩ := hrel
    obtain rfl : k = 0 := by omega
    have j2 : wr.cell? ⟨w.heap.size + 1, 0, none⟩ = some (.string F) := (hbel.cell (p := ⟨w.heap.size + 1, 0, none⟩) (World.block_lt_of_cell? w6 _ i2)).trans i2
    have j3 : wr.cell? ⟨w.heap.size + 1, 1, none⟩ = some (.string T) := (hbel.cell (p := ⟨w.heap.size + 1, 1, none⟩) (World.block_lt_of_cell? w6 _ i3)).trans i3
    have HB7 := Lib.hid (HB6.out.trans (hbel.mono HB6.out.size))
    clear hbel hk i2 i3
    go_wp2_with fail
    refine (HPA.out _ HB7.out).mono ?_
    rintro e w8 ⟨rfl, hb⟩
    have HB8 := Lib.hid (HB7.out.trans (hb.mono HB7.out.size))
    clear hb j2 j3
    go_wp2
    go_loopg [16] 0 (fun cnt s w1 => P2Rel 0 w8 cnt s w1)
    case atStart => exact ⟨0, rfl, rfl, Below.refl _ _⟩
    case round =>
      obtain ⟨k, hk, rfl, hbel⟩ := hrel
      obtain rfl : k = 0 := by omega
      have HB9 := Lib.hid (HB8.out.trans (hbel.mono HB8.out.size))
      clear hbel hk
      go_wp2_with fail
      refine (Rt.works_any _).mono ?_
      rintro e w4 ⟨rfl, hb⟩
      have HF := Lib.hid (HB3.out.trans ((HB9.out.trans (hb.mono HB9.out.size)).mono HB3.out.size))
      clear hb
      go_wp2
      go_ret
      exact ⟨rfl, HF.out⟩

set_option maxRecDepth 100000 in
set_option maxHeartbeats 4000000 in
theorem lparts_ok (A : Option Addr) (len cap : Nat) (l : List ByteArray) (n : Int) (F T : ByteArray) (w : World) (hl : Strs w A len cap l) (hz : newE l n = 0) (hc : chk F T = 0) :
    Calls Try.prog 5 #[.agg #[.slice A len cap, .int .i64 n], Sp F T] w fun e w' => e = .returned (.bool true) ∧ Below w.heap.size w w' := by
  have HL := Lib.hid hl
  obtain ⟨h6, hok, hn, hn4⟩ := newE_zero hz
  have HO := Lib.hid (And.intro h6 hok)
  have hb0 : Below w.heap.size w ((w.alloc (.cells #[.slice A len cap, .int .i64 n] 24)).alloc (.cells #[.string F, .string T] 34)) := (((Below.refl _ _).alloc (Nat.le_refl _) _).alloc (by simp) _)
  have HB0 := Lib.hid hb0
  have H2 := Lib.hid (Rt.New_ok A len cap l n _ (hl.below hb0) h6 hok hn hn4)
  have HCN := Lib.hid hc
  clear hl hz h6 hok hb0
  have hE : (edges l).length = (l.length + 1) + 1 := by rw [edges_length]
  have HE := Lib.hid hE
  clear hE
  go_enter Try.func5, Try.ntmps5
  go_wp2_with fail
  refine H2.out.mono ?_
  rintro e w2 ⟨R, rfl, hr, hb⟩
  have H3 := Lib.hid (New_ok A len cap l n w2 ((HL.out.below HB0.out).below hb) HO.out.1 HO.out.2 hn hn4)
  have e0 : w2.cell? ⟨w.heap.size, 0, none⟩ = some (.slice A len cap) := (hb.cell (p := ⟨w.heap.size, 0, none⟩) (by simp; omega)).trans (by go_simp)
  have e1 : w2.cell? ⟨w.heap.size, 1, none⟩ = some (.int .i64 n) := (hb.cell (p := ⟨w.heap.size, 1, none⟩) (by simp; omega)).trans (by go_simp)
  have e2 : w2.cell? ⟨w.heap.size + 1, 0, none⟩ = some (.string F) := (hb.cell (p := ⟨w.heap.size + 1, 0, none⟩) (by simp)).trans (by go_simp)
  have e3 : w2.cell? ⟨w.heap.size + 1, 1, none⟩ = some (.string T) := (hb.cell (p := ⟨w.heap.size + 1, 1, none⟩) (by simp)).trans (by go_simp)
  have HB2 := Lib.hid (HB0.out.trans (hb.mono HB0.out.size))
  have HR2 := Lib.hid hr
  have l2 : w.heap.size + 1 < w2.heap.size := World.block_lt_of_cell? w2 _ e2
  clear hr hb
  go_wp2_with fail
  refine H3.out.mono ?_
  rintro e wc ⟨p, rfl, hr, hb⟩
  have f2 : wc.cell? ⟨w.heap.size + 1, 0, none⟩ = some (.string F) := (hb.cell (p := ⟨w.heap.size + 1, 0, none⟩) l2).trans e2
  have f3 : wc.cell? ⟨w.heap.size + 1, 1, none⟩ = some (.string T) := (hb.cell (p := ⟨w.heap.size + 1, 1, none⟩) l2).trans e3
  have HB3 := Lib.hid (HB2.out.trans (hb.mono HB2.out.size))
  have HRA := Lib.hid (HR2.out.below hb)
  have l3 : w.heap.size + 1 < wc.heap.size := World.block_lt_of_cell? wc _ f2
  have HF23 := Lib.hid (And.intro f2 f3)
  obtain ⟨ps, hps⟩ : ∃ ps, ps = partsTo (edges l) n F T (l.length + 1) := ⟨_, rfl⟩
  have HPA := Lib.hid (fun (wx : World) (B : Nat) (hx : Rt.Are B wx R (edges l) n) => by
    have h := Rt.Parts_ok hx hn hn4 (by rw [HE.out]; have := HO.out.1; omega) F T HCN.out
    rw [show (edges l).length - 1 = l.length + 1 by rw [HE.out]; omega, ← hps] at h
    exact h)
  have HPB := Lib.hid (fun (wx : World) (B : Nat) (hx : Are B wx p l n) => by
    have h := RParts_ok hx HO.out.1 hn hn4 F T HCN.out (fun i hi => edge_chk HO.out.2 i hi)
    rw [← hps] at h
    exact h)
  have hrb := Lib.hid hr
  have hpl : ps.length ≤ 6 := by rw [hps]; exact Nat.le_trans (Rt.partsTo_le _ _ _ _ _) (by have := HO.out.1; omega)
  clear hr hb e0 e1 e2 e3 H2 H3 HR2 hc hps
  go_wp2_with fail
  refine (HPA.out wc _ HRA.out).mono ?_
  rintro e w5 ⟨u, rfl, hown, hb⟩
  have g2 : w5.cell? ⟨w.heap.size + 1, 0, none⟩ = some (.string F) := (hb.cell (p := ⟨w.heap.size + 1, 0, none⟩) l3).trans f2
  have g3 : w5.cell? ⟨w.heap.size + 1, 1, none⟩ = some (.string T) := (hb.cell (p := ⟨w.heap.size + 1, 1, none⟩) l3).trans f3
  have HB5 := Lib.hid hb
  have l5 : w.heap.size + 1 < w5.heap.size := World.block_lt_of_cell? w5 _ g2
  have HRA5 := Lib.hid (HRA.out.below hb)
  have HRB5 := Lib.hid (hrb.out.below hb)
  obtain ⟨A1, c1, rfl, hp1, hA1⟩ := par_of hown
  have HP1 := Lib.hid hp1
  have HA1 := Lib.hid hA1
  clear hb f2 f3 hown hp1 hA1
  go_wp2_with fail
  refine (HPB.out w5 _ HRB5.out).mono ?_
  rintro e w6 ⟨v, rfl, hown, hb⟩
  have i2 : w6.cell? ⟨w.heap.size + 1, 0, none⟩ = some (.string F) := (hb.cell (p := ⟨w.heap.size + 1, 0, none⟩) l5).trans g2
  have i3 : w6.cell? ⟨w.heap.size + 1, 1, none⟩ = some (.string T) := (hb.cell (p := ⟨w.heap.size + 1, 1, none⟩) l5).trans g3
  have HB6 := Lib.hid (HB5.out.trans (hb.mono HB5.out.size))
  have l6 : w.heap.size + 1 < w6.heap.size := World.block_lt_of_cell? w6 _ i2
  have HRA6 := Lib.hid (HRA5.out.below hb)
  have HP16 := Lib.hid (HP1.out.below hb)
  obtain ⟨A2, c2, rfl, hp2, hA2⟩ := par_of hown
  have HP2 := Lib.hid hp2
  have HA2 := Lib.hid hA2
  have hsz6 : w5.heap.size ≤ w6.heap.size := hb.size
  have t1 : ((ps.length : Int) != (ps.length : Int)) = false := by simp
  clear hb g2 g3 hown hp2 hA2
  obtain ⟨N, hN⟩ : ∃ N, N = ps.length := ⟨_, rfl⟩
  have HN := Lib.hid hN
  rw [← hN] at hpl t1 ⊢
  clear hN
  go_wp2
  go_loopg [13] N (fun cnt s w1 => P1Rel A1 ps w6 cnt s w1)
  case atStart => exact ⟨0, by have := HN.out; omega, rfl, HP16.out, Turns.refl _ _⟩
  case round =>
    obtain ⟨k, hk, rfl, hpar, hturn⟩ := hrel
    have HK := Lib.hid hk
    rw [← HN.out] at hk
    have HPAR := Lib.hid hpar
    have HT := Lib.hid hturn
    by_cases hlt : k < N
    · obtain ⟨q, hq⟩ : ∃ q, ps[k]? = some q := ⟨_, List.getElem?_eq_getElem (show k < ps.length by rw [← HN.out]; exact hlt)⟩
      obtain ⟨g, rfl, ⟨x0, x1, x2, x3⟩, y0, y1, y2, y3⟩ := hpar.cel k q (Nat.le_refl _) hq
      have hpar2 := HP2.out.keep hturn (fun b hb hb1 => by have h1 := HA1.out b hb1; have h2 := HA2.out b hb; omega)
      obtain ⟨g2, rfl, ⟨z0, z1, z2, z3⟩, _⟩ := hpar2.cel k q (Nat.zero_le _) hq
      have b1 : (k : Int) < (N : Int) := by omega
      have b2 : (0 : Int) ≤ (k : Int) := by omega
      have b3 : k ≤ 6 := by omega
      have HNX := Lib.hid (fun q' => P1Rel.next (k := k) (by have := HN.out; omega) HPAR.out HT.out (.int .i64 0) (.int .i64 0) (.string ⟨#[]⟩) (.string ⟨#[]⟩) q')
      clear hpar hturn hpar2 hk
      go_wp2
      go_quiet (fail)
      go_wp2
      go_roundg (ps.length - (k + 1))
      case measure => have := HK.out; have := HN.out; omega
      case rel => exact HNX.out _
    · have ek : decide ((k : Int) < (N : Int)) = false := by simp; omega
      have ek2 : decide (k < N) = false := by simp; omega
      have hkeep : ∀ b, b < wc.heap.size → wr.heap[b]? = wc.heap[b]? := fun b hb => (hturn.block b (Nat.lt_of_lt_of_le hb HB6.out.size) (fun hb1 => by have := (HA1.out b hb1).1; omega)).trans (HB6.out.block b hb)
      have HRA7 := Lib.hid (HRA.out.keep (fun b _ hb => hkeep b hb))
      have j2 : wr.cell? ⟨w.heap.size + 1, 0, none⟩ = some (.string F) := (World.cell?_of_block (w := wc) (a := ⟨w.heap.size + 1, 0, none⟩) (hkeep _ l3)).trans HF23.out.1
      have j3 : wr.cell? ⟨w.heap.size + 1, 1, none⟩ = some (.string T) := (World.cell?_of_block (w := wc) (a := ⟨w.heap.size + 1, 1, none⟩) (hkeep _ l3)).trans HF23.out.2
      have HB7 : Hid (Below wc.heap.size wc wr) := HB6.out.trans (hturn.to_below HB6.out.size (fun b hb => (HA1.out b hb).1))
      have HP27 := Lib.hid (HP2.out.keep hturn (fun b hb hb1 => by have h1 := HA1.out b hb1; have h2 := HA2.out b hb; omega))
      clear hpar hturn hk hkeep i2 i3 hlt
      go_wp2_with fail
      refine (HPA.out wr _ HRA7.out).mono ?_
      rintro e w8 ⟨u3, rfl, hown, hb⟩
      have HB8 := Lib.hid (HB7.out.trans (hb.mono HB7.out.size))
      have HP28 := Lib.hid (HP27.out.below hb)
      obtain ⟨A3, c3, rfl, hp3, _⟩ := par_of hown
      have HP3 := Lib.hid hp3
      rw [← HN.out]
      clear hb j2 j3 hown hp3
      go_wp2
      go_loopg [16] N (fun cnt s w1 => P2Rel N w8 cnt s w1)
      case atStart => exact ⟨0, by omega, rfl, Below.refl _ _⟩
      case round =>
        obtain ⟨j, hj, rfl, hbel⟩ := hrel
        have HJ := Lib.hid hj
        have HB9 := Lib.hid hbel
        by_cases hlt : j < N
        · obtain ⟨q, hq⟩ : ∃ q, ps[j]? = some q := ⟨_, List.getElem?_eq_getElem (show j < ps.length by rw [← HN.out]; exact hlt)⟩
          obtain ⟨g, rfl, ⟨x0, x1, x2, x3⟩, _⟩ := (HP3.out.below hbel).cel j q (Nat.zero_le _) hq
          obtain ⟨g2, rfl, ⟨z0, z1, z2, z3⟩, _⟩ := (HP28.out.below hbel).cel j q (Nat.zero_le _) hq
          have b1 : (j : Int) < (N : Int) := by omega
          have b2 : (0 : Int) ≤ (j : Int) := by omega
          have b3 : j ≤ 6 := by omega
          have HNX : Hid (∀ q', P2Rel N w8 (N - (j + 1)) (.int .i64 ((j : Int) + 1)) (wr.drewN q')) := fun q' => ⟨j + 1, by omega, by simp, below_drewN HB9.out q'⟩
          clear hbel hj
          go_wp2
          go_quiet (fail)
          go_wp2
          go_roundg (N - (j + 1))
          case measure => have := HJ.out; omega
          case rel => exact HNX.out _
        · have ek : decide ((j : Int) < (N : Int)) = false := by simp; omega
          have ek2 : decide (j < N) = false := by simp; omega
          have HBA := Lib.hid (HB8.out.trans (hbel.mono HB8.out.size))
          clear hbel hj hlt
          go_wp2_with fail
          refine (Rt.works_any _).mono ?_
          rintro e w4 ⟨rfl, hb⟩
          have HF := Lib.hid (HB3.out.trans ((HBA.out.trans (hb.mono HBA.out.size)).mono HB3.out.size))
          clear hb
          go_wp2
          go_ret
          exact ⟨rfl, HF.out⟩

theorem lparts_walk (A : Option Addr) (len cap : Nat) (l : List ByteArray) (n : Int) (F T : ByteArray) (w : World) (hl : Strs w A len cap l) :
    Calls Try.prog 5 #[.agg #[.slice A len cap, .int .i64 n], Sp F T] w fun e w' => e = .returned (.bool true) ∧ Below w.heap.size w w' := by
  by_cases hz : newE l n = 0
  · by_cases hc : chk F T = 0
    · exact lparts_ok A len cap l n F T w hl hz hc
    · exact lparts_no A len cap l n F T w hl hz hc
  · exact lparts_bad A len cap l n F T w hl hz

end Rr
end Go.Proofs.Ytpkiiimbichooaa
