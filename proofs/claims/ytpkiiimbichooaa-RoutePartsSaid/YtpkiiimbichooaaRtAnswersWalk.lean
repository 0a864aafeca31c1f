/-
  Walk: the law RouteAnswers.
-/
import Derived.Test.YtpkiiimbichooaaRtAnsFacts
namespace Go.Proofs.Ytpkiiimbichooaa
open Go.RowKit Sk
namespace Rr
open Rt (Strs RP Sp edges ed newE isK okB em newE_zero str_info edges_length)

/-- what 'append' onto nothing leaves -/
theorem copy_form {w : World} {B : Nat} {v : Value} {len : Nat} {l : List ByteArray} (h : w.ownsRow B 9 1 v len (l.map Value.string)) (hlen : l.length = len) :
    ∃ A cap, v = .slice A len cap ∧ Strs w A len cap l ∧ Rest w A l 0 ∧ ∀ b, blockOf A b → B ≤ b ∧ b < w.heap.size := by
  rcases h.2 with ⟨hv, h0⟩ | ⟨g, cap, cur, hv, hB, hg, hnc, _⟩
  · have hl0 : l = [] := List.eq_nil_of_length_eq_zero (by omega)
    subst hl0
    exact ⟨none, 0, by rw [hv, h0], ⟨hlen, by omega, fun _ => rfl, fun k x hx => by simp at hx⟩, ⟨fun j x _ hx => by simp at hx⟩, fun b ⟨a, ha, _⟩ => by cases ha⟩
  · have hc : ∀ (k : Nat) (x : ByteArray), l[k]? = some x → w.cell? ⟨g, k, none⟩ = some (.string x) := fun k x hx => by
      have h2 := h
      subst hv
      have := h2.cells (g := g) rfl k (.string x) (by rw [List.getElem?_map, hx]; rfl)
      rw [addr_add, Nat.zero_add] at this
      exact this
    refine ⟨some ⟨g, 0, none⟩, cap, hv, ⟨hlen, hnc, fun e => (by cases e), fun k x hx => ⟨g, 0, rfl, by rw [Nat.zero_add]; exact hc k x hx⟩⟩, ⟨fun j x _ hx => ⟨g, rfl, hc j x hx, frozen_of_row w g j cur _ hg⟩⟩, fun b ⟨a, ha, hb⟩ => ?_⟩
    injection ha with ha
    subst ha
    subst hb
    exact ⟨hB, (Array.getElem?_eq_some_iff.1 hg).1⟩
theorem Turns.low {w w1 : World} {A : Option Addr} {B : Nat} (h : Turns (blockOf A) w w1) (hB : B ≤ w.heap.size) (hA : ∀ b, blockOf A b → B ≤ b) : Below B w w1 := h.to_below hB hA

set_option maxRecDepth 100000 in
set_option maxHeartbeats 4000000 in
/-- a plan that may not be -/
theorem answers_bad (A : Option Addr) (len cap : Nat) (l : List ByteArray) (n : Int) (key : ByteArray) (i : Int) (w : World) (hl : Strs w A len cap l) (hz : newE l n ≠ 0) (hbd : l.length ≤ 8796093022208) :
    Calls Try.prog 6 #[.agg #[.slice A len cap, .int .i64 n], .string key, .int .i64 i] w fun e w' => e = .returned (.bool true) ∧ Below w.heap.size w w' := by
  obtain ⟨i0, hi0, hz0, hz1, hz2⟩ := info_parts str_info
  have HI := Lib.hid (And.intro hi0 (And.intro hz0 (And.intro hz1 hz2)))
  have HL := Lib.hid hl
  have HBD := Lib.hid hbd
  have hd1 : decide (newE l n = 0) = false := by simpa using hz
  have hd2 : (newE l n != 0) = true := by simpa using hz
  have hd3 : (newE l n != newE l n) = false := by simp
  have HZ := Lib.hid hz
  clear hl hz hbd hi0 hz0 hz1 hz2
  go_enter Try.func6, Try.ntmps6
  go_wp2_with (at_builtin; refine wpList_append_src rfl (.const (.slice none 0 0)) (.tmp 26) 22 rfl (w.heap.size + 1) 9 i0 _ 1 16 Try.underlying22 HI.out.1 HI.out.2.1 HI.out.2.2.1 HI.out.2.2.2 rfl (by decide) _ 0 [] rfl (World.ownsRow_nil _ _ _ _) A len cap (l.map Value.string) rfl ?h1 ?h2 ?h3 ?h4 ?h5 ?h6 ?h7 ?_)
  case h1 => have := HL.out.hlen; simp; omega
  case h2 => intro hA; have := HL.out.nil hA; have := HL.out.hcap; omega
  case h3 =>
    intro ad had j u hu
    rw [List.getElem?_map] at hu
    cases hlj : l[j]? with
    | none => rw [hlj] at hu; cases hu
    | some y =>
      rw [hlj] at hu
      obtain ⟨g, o, hA, hc⟩ := HL.out.cell j y hlj
      rw [had] at hA
      injection hA with hA
      subst hA
      have hgw := World.block_lt_of_cell? w _ hc
      rw [addr_add, World.cell?_alloc_lt _ _ _ hgw, hc]
      exact hu
  case h4 =>
    intro u hu
    obtain ⟨y, _, rfl⟩ := List.mem_map.1 hu
    rfl
  case h5 => have := HL.out.hlen; have := HBD.out; unfold maxLen; omega
  case h6 => have := HL.out.hlen; have := HBD.out; omega
  case h7 => simp
  intro v' w1 hown hg
  have hown1 : w1.ownsRow (w.heap.size + 1) 9 1 v' len (l.map Value.string) := by simpa using hown
  have hb1 : Below (w.heap.size + 1) (w.alloc (.cells #[.slice A len cap, .int .i64 n] 24)) w1 := (Below.refl _ _).grown hg (by simp) (fun k e => by cases e)
  have H1 : Hid (Below w.heap.size w w1) := ((Below.refl _ _).alloc (Nat.le_refl _) _).trans (hb1.mono (by omega))
  have c0 : w1.cell? ⟨w.heap.size, 0, none⟩ = some (.slice A len cap) := (hb1.cell (p := ⟨w.heap.size, 0, none⟩) (by simp)).trans (by go_simp)
  have c1 : w1.cell? ⟨w.heap.size, 1, none⟩ = some (.int .i64 n) := (hb1.cell (p := ⟨w.heap.size, 1, none⟩) (by simp)).trans (by go_simp)
  obtain ⟨A1, cap1, hv, hs1, hrest, hown2⟩ := copy_form hown1 HL.out.hlen
  subst hv
  have HS1 := Lib.hid (And.intro hs1 (And.intro hrest hown2))
  clear hown hg hb1 hown1 hs1 hrest hown2
  have h2 := Rt.New_any A1 len cap1 l n w1 HS1.out.1
  have H2 := Lib.hid (h2.mono (R' := fun e w' => e = .returned (.tuple #[.pointer none, .int .i64 (newE l n)]) ∧ w1 = w') fun e w' h => by
    rcases h with ⟨_, he, hw⟩ | ⟨h0, _⟩
    · exact ⟨he, hw⟩
    · exact absurd h0 HZ.out)
  have h3 := New_any A len cap l n w1 (HL.out.below H1.out)
  have H3 := Lib.hid (h3.mono (R' := fun e w' => e = .returned (.tuple #[.pointer none, .int .i64 (newE l n)]) ∧ Below w1.heap.size w1 w') fun e w' h => by
    rcases h with ⟨_, he, hw⟩ | ⟨h0, _⟩
    · exact ⟨he, hw⟩
    · exact absurd h0 HZ.out)
  have HLN := Lib.hid HL.out.hlen
  clear h2 h3
  generalize newE l n = c at *
  go_wp2_with fail
  refine H2.out.mono ?_
  rintro e w' ⟨rfl, rfl⟩
  go_wp2_with fail
  refine H3.out.mono ?_
  rintro e wc ⟨rfl, hb⟩
  have HBC := Lib.hid hb
  have HLC := Lib.hid ((HL.out.below H1.out).below hb)
  have d0 : wc.cell? ⟨w.heap.size, 0, none⟩ = some (.slice A len cap) := (hb.cell (p := ⟨w.heap.size, 0, none⟩) (World.block_lt_of_cell? w1 _ c0)).trans c0
  have HD0 := Lib.hid d0
  have HR0 : Hid (Rest wc A1 l 0) := ⟨fun j x hj hx => by
    obtain ⟨g, hA, hc, hf⟩ := HS1.out.2.1.cel j x hj hx
    have hgl := World.block_lt_of_cell? w1 _ hc
    exact ⟨g, hA, (hb.cell (p := ⟨g, j, none⟩) hgl).trans hc, (hb.frozen (p := ⟨g, j, none⟩) hgl).trans hf⟩⟩
  clear hb c0 c1 d0
  go_wp2_with fail
  go_loopg [12] len (fun cnt s w1 => InRel A1 l wc cnt s w1)
  case atStart => exact ⟨0, by have := HLN.out; omega, rfl, HR0.out, Turns.refl _ _⟩
  case round =>
    obtain ⟨k, hk, rfl, hrest, hturn⟩ := hrel
    have HK := Lib.hid hk
    have hln := HLN.out
    by_cases hlt : k < len
    · have hget := List.getElem?_eq_getElem (l := l) (i := k) (by omega)
      obtain ⟨gv, hA1, cv, fv⟩ := hrest.cel k _ (Nat.le_refl _) hget
      subst hA1
      have hgv := HS1.out.2.2 gv ⟨_, rfl, rfl⟩
      obtain ⟨g, o, hA, hc⟩ := (strs_turns HLC.out hturn (fun g o hA => fun hb => by
        obtain ⟨g', o', hA', hc'⟩ := HL.out.cell k _ hget
        rw [hA] at hA'
        have := (HS1.out.2.2 g hb).1
        have := World.block_lt_of_cell? w _ hc'
        obtain ⟨rfl, rfl⟩ : g = g' ∧ o = o' := by simpa using hA'
        simp at this
        omega)).cell k _ hget
      subst hA
      have hgw : g < w.heap.size := by
        obtain ⟨g', o', hA', hc'⟩ := HL.out.cell k _ hget
        have := World.block_lt_of_cell? w _ hc'
        obtain ⟨rfl, rfl⟩ : g = g' ∧ o = o' := by simpa using hA'
        exact this
      have d0 : wr.cell? ⟨w.heap.size, 0, none⟩ = some (.slice (some ⟨g, o, none⟩) len cap) := (World.cell?_of_block (w := wc) (a := ⟨w.heap.size, 0, none⟩) (hturn.block w.heap.size (World.block_lt_of_cell? wc _ HD0.out) (fun hb => by have := (HS1.out.2.2 _ hb).1; omega))).trans HD0.out
      have HN : Hid (∀ q, InRel (some ⟨gv, 0, none⟩) l wc (len - (k + 1)) (.int .i64 ((k : Int) + 1)) ((wr.setCell ⟨gv, k, none⟩ (.string ⟨#[115, 112, 111, 105, 108, 116]⟩)).drewN q)) := fun q => by
        have h := InRel.next (by omega) hrest hturn (.string ⟨#[115, 112, 111, 105, 108, 116]⟩) q
        rw [hln] at h
        exact h
      generalize l[k] = x at *
      have hi1 : (k : Int) < (len : Int) := by omega
      have hi0 : (0 : Int) ≤ (k : Int) := by omega
      have hne : (x.toList != x.toList) = false := by simp
      have hlb : (len : Int) ≤ 8796093022208 := by have := HBD.out; omega
      clear hget hrest hturn hk hln
      go_wp2
      go_quiet (fail)
      go_wp2
      go_roundg (len - (k + 1))
      case measure => have := HK.out; have := HLN.out; omega
      case rel => exact HN.out _
    · have ek : decide (k < len) = false := by simp; omega
      have ek2 : decide ((k : Int) < (len : Int)) = false := by simp; omega
      have HF : Hid (Below w.heap.size w wr) := (H1.out.trans (HBC.out.mono H1.out.size)).trans (hturn.to_below (Nat.le_trans H1.out.size HBC.out.size) (fun b hb => by have := (HS1.out.2.2 b hb).1; omega))
      clear hk hrest hturn hlt
      go_wp2_with fail
      refine (Rt.works_any _).mono ?_
      rintro e w4 ⟨rfl, hb⟩
      have HF4 := Lib.hid (HF.out.trans (hb.mono HF.out.size))
      clear hb
      go_wp2
      go_ret
      exact ⟨rfl, HF4.out⟩

set_option maxRecDepth 100000 in
set_option maxHeartbeats 8000000 in
theorem answers_ok (A : Option Addr) (len cap : Nat) (l : List ByteArray) (n : Int) (key : ByteArray) (i : Int) (w : World) (hl : Strs w A len cap l) (hz : newE l n = 0) :
    Calls Try.prog 6 #[.agg #[.slice A len cap, .int .i64 n], .string key, .int .i64 i] w fun e w' => e = .returned (.bool true) ∧ Below w.heap.size w w' := by
  obtain ⟨i0, hi0, hz0, hz1, hz2⟩ := info_parts str_info
  have HI := Lib.hid (And.intro hi0 (And.intro hz0 (And.intro hz1 hz2)))
  have HL := Lib.hid hl
  obtain ⟨h6, hok, hn, hn4⟩ := newE_zero hz
  have HBD := Lib.hid (show l.length ≤ 8796093022208 by omega)
  have HO := Lib.hid (And.intro h6 hok)
  have HLN := Lib.hid hl.hlen
  clear hl hz h6 hok hi0 hz0 hz1 hz2
  go_enter Try.func6, Try.ntmps6
  go_wp2_with (at_builtin; refine wpList_append_src rfl (.const (.slice none 0 0)) (.tmp 26) 22 rfl (w.heap.size + 1) 9 i0 _ 1 16 Try.underlying22 HI.out.1 HI.out.2.1 HI.out.2.2.1 HI.out.2.2.2 rfl (by decide) _ 0 [] rfl (World.ownsRow_nil _ _ _ _) A len cap (l.map Value.string) rfl ?h1 ?h2 ?h3 ?h4 ?h5 ?h6 ?h7 ?_)
  case h1 => have := HL.out.hlen; simp; omega
  case h2 => intro hA; have := HL.out.nil hA; have := HL.out.hcap; omega
  case h3 =>
    intro ad had j u hu
    rw [List.getElem?_map] at hu
    cases hlj : l[j]? with
    | none => rw [hlj] at hu; cases hu
    | some y =>
      rw [hlj] at hu
      obtain ⟨g, o, hA, hc⟩ := HL.out.cell j y hlj
      rw [had] at hA
      injection hA with hA
      subst hA
      have hgw := World.block_lt_of_cell? w _ hc
      rw [addr_add, World.cell?_alloc_lt _ _ _ hgw, hc]
      exact hu
  case h4 =>
    intro u hu
    obtain ⟨y, _, rfl⟩ := List.mem_map.1 hu
    rfl
  case h5 => have := HL.out.hlen; have := HBD.out; unfold maxLen; omega
  case h6 => have := HL.out.hlen; have := HBD.out; omega
  case h7 => simp
  intro v' w1 hown hg
  have hown1 : w1.ownsRow (w.heap.size + 1) 9 1 v' len (l.map Value.string) := by simpa using hown
  have hb1 : Below (w.heap.size + 1) (w.alloc (.cells #[.slice A len cap, .int .i64 n] 24)) w1 := (Below.refl _ _).grown hg (by simp) (fun k e => by cases e)
  have H1 : Hid (Below w.heap.size w w1) := ((Below.refl _ _).alloc (Nat.le_refl _) _).trans (hb1.mono (by omega))
  have c0 : w1.cell? ⟨w.heap.size, 0, none⟩ = some (.slice A len cap) := (hb1.cell (p := ⟨w.heap.size, 0, none⟩) (by simp)).trans (by go_simp)
  have c1 : w1.cell? ⟨w.heap.size, 1, none⟩ = some (.int .i64 n) := (hb1.cell (p := ⟨w.heap.size, 1, none⟩) (by simp)).trans (by go_simp)
  obtain ⟨A1, cap1, hv, hs1, hrest, hown2⟩ := copy_form hown1 HL.out.hlen
  subst hv
  have HS1 := Lib.hid (And.intro hs1 (And.intro hrest hown2))
  clear hown hg hb1 hown1 hs1 hrest hown2
  have H2 := Lib.hid (Rt.New_ok A1 len cap1 l n w1 HS1.out.1 HO.out.1 HO.out.2 hn hn4)
  go_wp2_with fail
  refine H2.out.mono ?_
  rintro e w2 ⟨R, rfl, hr, hb⟩
  have HB2 := Lib.hid hb
  have HR2 := Lib.hid hr
  have H3 := Lib.hid (New_ok A len cap l n w2 ((HL.out.below H1.out).below hb) HO.out.1 HO.out.2 hn hn4)
  have e0 : w2.cell? ⟨w.heap.size, 0, none⟩ = some (.slice A len cap) := (hb.cell (p := ⟨w.heap.size, 0, none⟩) (World.block_lt_of_cell? w1 _ c0)).trans c0
  have e1 : w2.cell? ⟨w.heap.size, 1, none⟩ = some (.int .i64 n) := (hb.cell (p := ⟨w.heap.size, 1, none⟩) (World.block_lt_of_cell? w1 _ c1)).trans c1
  clear hr hb
  go_wp2_with fail
  refine H3.out.mono ?_
  rintro e wc ⟨p, rfl, hr, hb⟩
  have HBC : Hid (Below w1.heap.size w1 wc) := HB2.out.trans (hb.mono HB2.out.size)
  have HRA : Hid (Rt.Are w1.heap.size wc R (edges l) n) := HR2.out.below hb
  have HRB : Hid (Are w1.heap.size wc p l n) := by obtain ⟨u, h⟩ := hr; exact ⟨u, h.hdr, owns_mono h.own HB2.out.size, Nat.le_trans HB2.out.size h.bp⟩
  have HLC := Lib.hid (((HL.out.below H1.out).below HB2.out).below hb)
  have HD0 : Hid (wc.cell? ⟨w.heap.size, 0, none⟩ = some (.slice A len cap)) := (hb.cell (p := ⟨w.heap.size, 0, none⟩) (World.block_lt_of_cell? w2 _ e0)).trans e0
  have HR0 : Hid (Rest wc A1 l 0) := ⟨fun j x hj hx => by
    obtain ⟨g, hA, hc, hf⟩ := HS1.out.2.1.cel j x hj hx
    have hgl := World.block_lt_of_cell? w1 _ hc
    exact ⟨g, hA, (HBC.out.cell (p := ⟨g, j, none⟩) hgl).trans hc, (HBC.out.frozen (p := ⟨g, j, none⟩) hgl).trans hf⟩⟩
  clear hr hb c0 c1 e0 e1 H2 H3 HR2
  go_wp2_with fail
  go_loopg [12] len (fun cnt s w1 => InRel A1 l wc cnt s w1)
  case atStart => exact ⟨0, by have := HLN.out; omega, rfl, HR0.out, Turns.refl _ _⟩
  case round =>
    obtain ⟨k, hk, rfl, hrest, hturn⟩ := hrel
    have HK := Lib.hid hk
    have hln := HLN.out
    by_cases hlt : k < len
    · have hget := List.getElem?_eq_getElem (l := l) (i := k) (by omega)
      obtain ⟨gv, hA1, cv, fv⟩ := hrest.cel k _ (Nat.le_refl _) hget
      subst hA1
      have hgv := HS1.out.2.2 gv ⟨_, rfl, rfl⟩
      obtain ⟨g, o, hA, hc⟩ := (strs_turns HLC.out hturn (fun g o hA => fun hb => by
        obtain ⟨g', o', hA', hc'⟩ := HL.out.cell k _ hget
        rw [hA] at hA'
        have := (HS1.out.2.2 g hb).1
        have := World.block_lt_of_cell? w _ hc'
        obtain ⟨rfl, rfl⟩ : g = g' ∧ o = o' := by simpa using hA'
        simp at this
        omega)).cell k _ hget
      subst hA
      have hgw : g < w.heap.size := by
        obtain ⟨g', o', hA', hc'⟩ := HL.out.cell k _ hget
        have := World.block_lt_of_cell? w _ hc'
        obtain ⟨rfl, rfl⟩ : g = g' ∧ o = o' := by simpa using hA'
        exact this
      have d0 : wr.cell? ⟨w.heap.size, 0, none⟩ = some (.slice (some ⟨g, o, none⟩) len cap) := (World.cell?_of_block (w := wc) (a := ⟨w.heap.size, 0, none⟩) (hturn.block w.heap.size (World.block_lt_of_cell? wc _ HD0.out) (fun hb => by have := (HS1.out.2.2 _ hb).1; omega))).trans HD0.out
      have HN : Hid (∀ q, InRel (some ⟨gv, 0, none⟩) l wc (len - (k + 1)) (.int .i64 ((k : Int) + 1)) ((wr.setCell ⟨gv, k, none⟩ (.string ⟨#[115, 112, 111, 105, 108, 116]⟩)).drewN q)) := fun q => by
        have h := InRel.next (by omega) hrest hturn (.string ⟨#[115, 112, 111, 105, 108, 116]⟩) q
        rw [hln] at h
        exact h
      generalize l[k] = x at *
      have hi1 : (k : Int) < (len : Int) := by omega
      have hi0 : (0 : Int) ≤ (k : Int) := by omega
      have hne : (x.toList != x.toList) = false := by simp
      have hlb : (len : Int) ≤ 8796093022208 := by have := HBD.out; omega
      clear hget hrest hturn hk hln
      go_wp2
      go_quiet (fail)
      go_wp2
      go_roundg (len - (k + 1))
      case measure => have := HK.out; have := HLN.out; omega
      case rel => exact HN.out _
    · have ek : decide (k < len) = false := by simp; omega
      have ek2 : decide ((k : Int) < (len : Int)) = false := by simp; omega
      have HF : Hid (Below w.heap.size w wr) := (H1.out.trans (HBC.out.mono H1.out.size)).trans (hturn.to_below (Nat.le_trans H1.out.size HBC.out.size) (fun b hb => by have := (HS1.out.2.2 b hb).1; omega))
      have hra := keepR HRA.out hturn (fun k hk hb => by have := (HS1.out.2.2 k hb).2; omega)
      have hrb := HRB.out.keep hturn (fun k hk hb => by have := (HS1.out.2.2 k hb).2; omega)
      have S1 := Lib.hid (Shard_a hra hn HO.out.1 HO.out.2 key)
      have HRA2 := Lib.hid hra
      have HRB2 := Lib.hid hrb
      clear hk hrest hturn hlt hra hrb
      go_wp2_with fail
      refine S1.out.mono ?_
      rintro e w' ⟨rfl, q, rfl⟩
      obtain ⟨x1, hx1⟩ : ∃ x, wr.drewN q = x := ⟨_, rfl⟩
      have hbx : Below wr.heap.size wr x1 := hx1 ▸ below_drewN' (Below.refl _ wr) q
      have HRA3 := Lib.hid (HRA2.out.below hbx)
      have HRB3 := Lib.hid (HRB2.out.below hbx)
      have HF1 := Lib.hid (HF.out.trans (hbx.mono HF.out.size))
      have S2 := Lib.hid (Shard_b HRB3.out HO.out.1 HO.out.2 key)
      have S3 := Lib.hid (Node_a HRA3.out hn hn4 HO.out.1 i)
      have S4 := Lib.hid (Node_b HRB3.out HO.out.1 hn hn4 i)
      have S5 := Lib.hid (Span_a HRA3.out hn HO.out.1 i)
      generalize sv l key = v1 at *
      generalize se key = v2 at *
      rw [hx1]
      clear hx1 hbx HRA2 HRB2
      generalize nv l n i = v3 at *
      go_wp2_with fail
      refine S2.out.mono ?_
      rintro e w' ⟨rfl, rfl⟩
      go_wp2_with fail
      refine S3.out.mono ?_
      rintro e w' ⟨rfl, rfl⟩
      go_wp2_with fail
      refine S4.out.mono ?_
      rintro e w' ⟨rfl, rfl⟩
      go_wp2_with fail
      refine S5.out.mono ?_
      rintro e x2 ⟨rfl, hb⟩
      have hb2 := hb.trans (((Below.refl _ x2).alloc (Nat.le_refl _) (.cells #[.string (sF l i), .string (sT l i)] 34)).mono hb.size)
      have HRA4 := Lib.hid (HRA3.out.below hb2)
      have HRB4 := Lib.hid (HRB3.out.below hb2)
      have HF2 := Lib.hid (HF1.out.trans (hb2.mono HF1.out.size))
      have S6 := Lib.hid (Span_b HRB4.out HO.out.1 i)
      generalize sF l i = F at *
      generalize sT l i = T at *
      generalize ne l i = v4 at *
      clear hb hb2
      go_wp2_with fail
      refine S6.out.mono ?_
      rintro e x3 ⟨rfl, hb⟩
      have hb2 := hb.trans (((Below.refl _ x3).alloc (Nat.le_refl _) (.cells #[.string F, .string T] 34)).mono hb.size)
      have d0 : x3.cell? ⟨x2.heap.size, 0, none⟩ = some (.string F) := (hb.cell (p := ⟨x2.heap.size, 0, none⟩) (by simp)).trans (by go_simp)
      have d1 : x3.cell? ⟨x2.heap.size, 1, none⟩ = some (.string T) := (hb.cell (p := ⟨x2.heap.size, 1, none⟩) (by simp)).trans (by go_simp)
      have l23 : x2.heap.size < x3.heap.size := World.block_lt_of_cell? x3 _ d0
      have HRA5 := Lib.hid (HRA4.out.below hb2)
      have HRB5 := Lib.hid (HRB4.out.below hb2)
      have HF3 := Lib.hid (HF2.out.trans (hb2.mono HF2.out.size))
      obtain ⟨m, hm⟩ : ∃ m, m = l.length + 1 := ⟨_, rfl⟩
      have S7 := Lib.hid (Rt.Shards_m HRA5.out hn (m := m) (by rw [edges_length]; omega) (by have := HO.out.1; omega))
      have S8 := Lib.hid (Shards_any HRB5.out HO.out.1 m hm)
      clear hb hb2 hm
      go_wp2_with fail
      refine S7.out.mono ?_
      rintro e w' ⟨rfl, rfl⟩
      go_wp2_with fail
      refine S8.out.mono ?_
      rintro e w' ⟨rfl, rfl⟩
      go_wp2_with fail
      refine (Rt.works_any _).mono ?_
      rintro e x4 ⟨rfl, hb⟩
      have HF4 := Lib.hid (HF3.out.trans (hb.mono HF3.out.size))
      clear hb
      go_wp2
      go_ret
      exact ⟨rfl, HF4.out⟩

theorem answers_walk (A : Option Addr) (len cap : Nat) (l : List ByteArray) (n : Int) (key : ByteArray) (i : Int) (w : World) (hl : Strs w A len cap l) (hbd : l.length ≤ 8796093022208) :
    Calls Try.prog 6 #[.agg #[.slice A len cap, .int .i64 n], .string key, .int .i64 i] w fun e w' => e = .returned (.bool true) ∧ Below w.heap.size w w' := by
  by_cases hz : newE l n = 0
  · exact answers_ok A len cap l n key i w hl hz
  · exact answers_bad A len cap l n key i w hl hz hbd

end Rr
end Go.Proofs.Ytpkiiimbichooaa
