/-
  Walk: the law TableMap.
-/
import Derived.Test.YtoglklldclgcbaaTbSeedsWalk
import Derived.Deep.QuietTactic
import Derived.BigQuiet
namespace Go.Proofs.Ytoglklldclgcbaa
open Go.RowKit Sk
open Go.Maps (string_keyed)
open Go.WideMaps (keyOf_string_mk)
namespace Tb

theorem chk_of_bad {l : List Chg} {o : Chg} (ho : o ∈ l) (hb : badC o = true) : chkO l ≠ 0 := fun h => by
  rw [(chk_zero h).2 o ho] at hb
  cases hb
theorem chk_of_good {l : List Chg} (h1 : l.length ≤ 128) (h2 : ∀ o ∈ l, badC o = false) : chkO l = 0 := by
  unfold chkO
  rw [if_neg (by omega), if_neg]
  intro h
  obtain ⟨o, ho, hb⟩ := List.any_eq_true.1 h
  rw [h2 o ho] at hb
  cases hb
theorem chk_cases {l : List Chg} (hc : chkO l ≠ 0) : chkO l = 5 ∨ chkO l = 2 := by
  unfold chkO at hc ⊢
  split
  · exact .inl rfl
  · split
    · exact .inr rfl
    · rename_i h1 h2; rw [if_neg h1, if_neg h2] at hc; exact absurd rfl hc
/-- 'may' while the changes are looked at -/
def MayR (l : List Chg) (n cnt : Nat) (s8 s9 : Value) (w w1 : World) : Prop :=
  ∃ j m, j + cnt = n ∧ s8 = .bool m ∧ s9 = .int .i64 (j : Nat) ∧ ((m = true ∧ l.length ≤ 128 ∧ ∀ i o, i < j → l[i]? = some o → badC o = false) ∨ (m = false ∧ chkO l ≠ 0)) ∧ w1 = w
theorem Mp.len_run {w : World} {b n : Nat} {rows : List Row} (h : Mp w b n rows) (ty : TypeId) : (Builtin.len_ #[51] ty #[.map (some b)]).run Try.prog w = .ok (.int .i64 (rows.length : Nat)) w := by
  obtain ⟨D, h1, h2⟩ := h
  rw [h1.len Try.underlying51 ty, h2.size]
def StillR (s0 : Value) (w : World) (_ : Nat) (s : Value) (w1 : World) : Prop := s = s0 ∧ w1 = w
theorem MayR.next {l : List Chg} {n j : Nat} {w : World} {o : Chg} (ho : l[j]? = some o) (hj : j < n) (h1 : l.length ≤ 128) (h2 : ∀ i o, i < j → l[i]? = some o → badC o = false) : MayR l n (n - (j + 1)) (.bool (!badC o)) (.int .i64 ((j : Int) + 1)) w w := by
  refine ⟨j + 1, !badC o, by omega, rfl, by simp, ?_, rfl⟩
  cases hb : badC o with
  | true => exact .inr ⟨rfl, chk_of_bad (List.mem_of_getElem? ho) hb⟩
  | false =>
    refine .inl ⟨rfl, h1, fun i o' hi ho' => ?_⟩
    by_cases e : i = j
    · subst e; rw [ho] at ho'; injection ho' with ho'; rw [← ho']; exact hb
    · exact h2 i o' (by omega) ho'
def MpRel (t b : Nat) (rs : List Row) (u : Value) (w : World) (cnt : Nat) (s : Value) (w1 : World) : Prop :=
  ∃ k, k + cnt = rs.length ∧ s = .int .i64 (k : Nat) ∧ TM (fun k => k < w.heap.size) t b 3840 rs rs w1 ∧ Rws w1 u rs ∧ Below w.heap.size w w1

set_option maxRecDepth 100000 in
set_option maxHeartbeats 8000000 in
theorem map_walk (A : Option Addr) (len cap : Nat) (ls : List (List Chg)) (sd : Int) (w : World) (hb : Bts w A len cap ls) (hf : ∀ l ∈ ls, ∀ o ∈ l, Chg.Fine o) (hk : ∀ l ∈ ls, ∀ o ∈ l, o.k.size ≤ reachBytes) (hz : ∀ l ∈ ls, l.length * 40 ≤ reachBytes) :
    Calls Try.prog 6 #[.int .i64 sd, .slice A len cap] w fun e w' => e = .returned (.bool true) ∧ Below w.heap.size w w' := by
  have HB := Lib.hid (And.intro hb (And.intro hf hz))
  obtain ⟨n, hn, hn1, hn2⟩ : ∃ n, n = min len 30 ∧ n ≤ len ∧ n ≤ 30 := ⟨_, rfl, Nat.min_le_left _ _, Nat.min_le_right _ _⟩
  have HR := Lib.hid (min_rows ls n hn2 hk)
  have HN := Lib.hid hn
  have hmm := @run_makeMap Try.prog
  clear hb hf hk hn hz
  go_enter Try.func6, Try.ntmps6
  go_wp2_with fail
  refine (works_any w).mono ?_
  rintro e w0 ⟨rfl, hb0⟩
  have H0 := Lib.hid hb0
  clear hb0
  go_wp2_with fail
  refine (New_at sd w0).mono ?_
  rintro e w1 ⟨t, rfl, h1, hb1⟩
  have H1 : Hid (TM (fun k => k < w.heap.size) t w1.heap.size 0 [] [] (w1.alloc (.map #[] 0)) ∧ Below w.heap.size w (w1.alloc (.map #[] 0))) := by
    have hb2 : Below w1.heap.size w1 (w1.alloc (.map #[] 0)) := (Below.refl _ _).alloc (Nat.le_refl _) _
    have hs := hb1.size
    have hs0 := H0.out.size
    refine ⟨⟨⟨_, h1.below hb2, fun k hk hF => ?_, fun hk => ?_⟩, Mp.new w1, fun hF => by omega, fun k hk => ?_⟩, (H0.out.trans (hb1.mono hs0)).trans (hb2.mono (Nat.le_trans hs0 hs))⟩
    · have := hk.1; omega
    · have := hk.2; omega
    · have := hb2.size; omega
  clear h1 hb1 H0
  go_wp2_with fail
  generalize w1.alloc (.map #[] 0) = w2 at *
  generalize w1.heap.size = b at *
  go_loopg [7] n (fun cnt s w1 => MadeR t b ls w n cnt s w1)
  case atStart => exact ⟨0, by omega, rfl, H1.out⟩
  case round =>
    clear H1 hmm
    obtain ⟨k, hkn, rfl, htm, hbel⟩ := hrel
    have HK := Lib.hid hkn
    have HT := Lib.hid (And.intro htm hbel)
    have hlen := tRows_len ls k
    by_cases hlt : k < n
    · obtain ⟨l, hq⟩ : ∃ l, ls[k]? = some l := ⟨_, List.getElem?_eq_getElem (by rw [HB.out.1.hlen]; omega)⟩
      obtain ⟨g, o, A', n', c', rfl, hcell, hops⟩ := HB.out.1.cell k l hq
      have hcw : ∀ w', Below w.heap.size w w' → w'.cell? ⟨g, o + k, none⟩ = some (.slice A' n' c') := fun w' hb => (hb.cell (p := ⟨g, _, none⟩) (World.block_lt_of_cell? w _ hcell)).trans hcell
      have b1 : (k : Int) < (len : Int) := by omega
      have b2 : (0 : Int) ≤ (k : Int) := by omega
      have b3 : (k : Int) < 30 := by omega
      have x0 := hcw wr hbel
      have hl9 : (tRows ls k).length ≤ 900000 := by omega
      have hts := tRows_succ hq
      have HFI := Lib.hid (HB.out.2.1 l (List.mem_of_getElem? hq))
      have HO := Lib.hid (And.intro hops hcw)
      have HBZ := Lib.hid (show w.heap.size ≤ wr.heap.size from hbel.size)
      have HNX : Hid (∀ w3 m, m ≤ (k + 1) * 128 → TM (fun k => k < w.heap.size) t b m (appT l (tRows ls k)) (appT l (tRows ls k)) w3 → Below w.heap.size w w3 → MadeR t b ls w n (n - (k + 1)) (.int .i64 ((k : Int) + 1)) w3) := fun w3 m hm h3 h4 =>
        ⟨k + 1, by omega, by simp, by rw [hts]; exact h3.mono hm, h4⟩
      have HAP := Lib.hid ((HT.out.1).apply (HO.out.1.below HT.out.2) HO.out.1.f hl9)
      have HS := Lib.hid HT.out.1.srt
      have hnb : (n' : Int) ≤ 4000000000000 := by
        have := HB.out.2.2 l (List.mem_of_getElem? hq)
        rw [hops.hlen] at this
        unfold reachBytes at this
        omega
      have HNB := Lib.hid hnb
      generalize tRows ls k = rs at *
      have HSTART : Hid (∀ m, (m = true ∧ l.length ≤ 128) ∨ (m = false ∧ chkO l ≠ 0) → MayR l n' n' (.bool m) (.int .i64 0) wr wr) := fun m hm =>
        ⟨0, m, by omega, rfl, rfl, by rcases hm with ⟨h1, h2⟩ | h; exact .inl ⟨h1, h2, fun i o hi => by omega⟩; exact .inr h, rfl⟩
      obtain ⟨m0, hm0, hm1⟩ : ∃ m0, decide ((n' : Int) ≤ 128) = m0 ∧ ((m0 = true ∧ l.length ≤ 128) ∨ (m0 = false ∧ chkO l ≠ 0)) := by
        by_cases h : n' ≤ 128
        · exact ⟨true, by simp; omega, .inl ⟨rfl, by rw [hops.hlen]; exact h⟩⟩
        · refine ⟨false, by simp; omega, .inr ⟨rfl, fun hc => ?_⟩⟩
          have := (chk_zero hc).1
          rw [hops.hlen] at this
          omega
      have HS0 := Lib.hid (HSTART.out m0 hm1)
      have HBL := Lib.hid hbel
      have hm0' : decide (n' ≤ 128) = m0 := by rw [← hm0]; simp; omega
      clear htm hbel hkn hlen hq hcell hops hcw hts HT HSTART hnb hm1
      go_wp2_with fail
      go_loopg [8, 9] n' (fun cnt s8 s9 w1 => MayR l n' cnt s8 s9 wr w1)
      case atStart => exact HS0.out
      case round =>
        clear HS0 hm0 hm0'
        obtain ⟨j, m, hj, rfl, rfl, hm, rfl⟩ := hrel
        have HJ := Lib.hid hj
        rcases hm with ⟨rfl, h8, hgood⟩ | ⟨rfl, hbad⟩
        · have HG := Lib.hid (And.intro h8 hgood)
          by_cases hlt2 : j < n'
          · obtain ⟨c, hx⟩ : ∃ c, l[j]? = some c := ⟨_, List.getElem?_eq_getElem (by rw [HO.out.1.hlen]; exact hlt2)⟩
            obtain ⟨g', o', rfl, y0, y1, y2⟩ := (HO.out.1.below (show Below w.heap.size w wr from HBL.out)).cell j c hx
            have d1 : (j : Int) < (n' : Int) := by omega
            have d2 : (0 : Int) ≤ (j : Int) := by omega
            have hwr : IntKind.i64.wrap ((j : Int) + 1) = (j : Int) + 1 := IntWalk.i64_in _ (by have := HNB.out; omega)
            have HNI := Lib.hid (MayR.next (w := wr) hx hlt2 h8 hgood)
            obtain ⟨ck, cv, cd⟩ := c
            have HEB := Lib.hid (show badC ⟨ck, cv, cd⟩ = (ck.toList.isEmpty || (cd && !cv.toList.isEmpty)) from rfl)
            simp only at y0 y1 y2
            clear hx h8 hgood hj
            cases e1 : ck.toList.isEmpty with
            | true =>
              have HF : Hid (MayR l n' (n' - (j + 1)) (.bool false) (.int .i64 ((j : Int) + 1)) wr wr) := by have h := HNI.out; rw [HEB.out, e1] at h; exact h
              go_wp2_with fail
              go_roundg (n' - (j + 1))
              case measure => have := HJ.out; omega
              case rel => exact HF.out
            | false =>
              cases cd with
              | false =>
                have HF : Hid (MayR l n' (n' - (j + 1)) (.bool true) (.int .i64 ((j : Int) + 1)) wr wr) := by have h := HNI.out; rw [HEB.out, e1] at h; exact h
                go_wp2_with fail
                go_roundg (n' - (j + 1))
                case measure => have := HJ.out; omega
                case rel => exact HF.out
              | true =>
                cases e2 : cv.toList.isEmpty with
                | true =>
                  have HF : Hid (MayR l n' (n' - (j + 1)) (.bool true) (.int .i64 ((j : Int) + 1)) wr wr) := by have h := HNI.out; rw [HEB.out, e1, e2] at h; exact h
                  go_wp2_with fail
                  go_roundg (n' - (j + 1))
                  case measure => have := HJ.out; omega
                  case rel => exact HF.out
                | false =>
                  have HF : Hid (MayR l n' (n' - (j + 1)) (.bool false) (.int .i64 ((j : Int) + 1)) wr wr) := by have h := HNI.out; rw [HEB.out, e1, e2] at h; exact h
                  go_wp2_with fail
                  go_roundg (n' - (j + 1))
                  case measure => have := HJ.out; omega
                  case rel => exact HF.out
          · have ek : decide ((j : Int) < (n' : Int)) = false := by simp; omega
            have ek2 : decide (j < n') = false := by simp; omega
            have hc : chkO l = 0 := chk_of_good h8 (fun o ho => by
              obtain ⟨i, hi⟩ := List.mem_iff_getElem?.1 ho
              have := (List.getElem?_eq_some_iff.1 hi).1
              rw [HO.out.1.hlen] at this
              exact hgood i o (by omega) hi)
            have hap := HAP.out
            rw [hc] at hap
            have HAP2 := Lib.hid hap
            have HRUN := Lib.hid (show appT l rs = runT l rs by unfold appT; rw [if_pos hc])
            have hn8 : n' ≤ 128 := by rw [← HO.out.1.hlen]; exact h8
            clear hap hc h8 hgood hj HAP HG
            go_wp2_with fail
            refine HAP2.out.mono ?_
            rintro e w3 ⟨rfl, htm, htu⟩
            have H3 : Hid (MadeI t b k l rs (appT l rs) w n' n' (.int .i64 0) w3) := ⟨0, by omega, rfl, htm, HBL.out.trans (below_not htu HBZ.out)⟩
            have x3 := HO.out.2 w3 (HBL.out.trans (below_not htu HBZ.out))
            clear htm htu HAP2 HBL
            go_wp2_with fail
            go_loopg [10] n' (fun cnt s w1 => MadeI t b k l rs (appT l rs) w n' cnt s w1)
            case atStart => exact H3.out
            case round =>
              clear H3 x0 x3
              obtain ⟨i, hi, rfl, htm, hbel⟩ := hrel
              have HJ3 := Lib.hid hi
              have x0 := HO.out.2 wr hbel
              by_cases hlt3 : i < n'
              · obtain ⟨c, hx⟩ : ∃ c, l[i]? = some c := ⟨_, List.getElem?_eq_getElem (by rw [HO.out.1.hlen]; exact hlt3)⟩
                obtain ⟨g', o', rfl, y0, y1, y2⟩ := (HO.out.1.below hbel).cell i c hx
                have HOC := Lib.hid (show ∀ W, Below w.heap.size w W → W.cell? ⟨g, o + k, none⟩ = some (.slice (some ⟨g', o', none⟩) n' c') ∧ W.cell? ⟨g', o' + i * 3, none⟩ = some (.string c.k) ∧ W.cell? ⟨g', o' + i * 3 + 1, none⟩ = some (.string c.v) from fun W hW => by
                  obtain ⟨g2, o2, e, z0, z1, _⟩ := (HO.out.1.below hW).cell i c hx
                  injection e with e
                  injection e with e1 e2
                  subst e1 e2
                  exact ⟨HO.out.2 W hW, z0, z1⟩)
                have d1 : (i : Int) < (n' : Int) := by omega
                have d2 : (0 : Int) ≤ (i : Int) := by omega
                have hrt := runT_take (rows := rs) hx
                have hkey := keyOf_string_mk (P := Try.prog) Try.underlying9 (HFI.out c (List.mem_of_getElem? hx)).key
                have hss := srt_runT HS.out (l.take i)
                have HNI : Hid (∀ w5 m, m ≤ k * 128 + (i + 1) → TM (fun k => k < w.heap.size) t b m (appT l rs) (oneT (runT (l.take i) rs) c) w5 → Below w.heap.size w w5 → MadeI t b k l rs (appT l rs) w n' (n' - (i + 1)) (.int .i64 ((i : Int) + 1)) w5) := fun w5 m hm h5 h6 =>
                  ⟨i + 1, by omega, by simp, by rw [hrt]; exact h5.mono hm, h6⟩
                have hbB : Hid (w.heap.size ≤ b) := Nat.le_of_not_lt htm.bF
                have HSS := Lib.hid hss
                obtain ⟨ck, cv, cd⟩ := c
                generalize runT (l.take i) rs = rj at *
                simp only at y0 y1 y2 hkey
                have HTM := Lib.hid (And.intro htm hbel)
                cases cd with
                | true =>
                  obtain ⟨D, hown, hal⟩ := htm.mp
                  have HAL := Lib.hid hal
                  clear htm hbel hal hx hrt hss hi
                  go_wp2_with (at_delete; refine wpList_delete_own _ rfl _ _ 51 9 rfl 39 (string_keyed Try.underlying9) Try.underlying51 _ b (k * 128 + i) D rfl hown _ _ rfl hkey ?_; intro w5 hown5 hturn5)
                  have HF := Lib.hid (HNI.out w5 (k * 128 + i) (by omega) (HTM.out.1.mapped hturn5.grown ⟨_, hown5, HAL.out.drop HSS.out ck⟩) (HTM.out.2.trans (below_mapped hbB.out HTM.out.2.size hturn5.grown)))
                  clear hown hown5 hturn5
                  go_wp2_with fail
                  go_roundg (n' - (i + 1))
                  case measure => have := HJ3.out; omega
                  case rel => exact HF.out
                | false =>
                  obtain ⟨D, hown, hal⟩ := htm.mp
                  obtain ⟨w6, hrun, hown6, hgrow6⟩ := hown.drew.update (string_keyed Try.underlying9) Try.underlying51 (by unfold maxLen; omega) hkey (rowElem_mk cv)
                  have hb6 : Below w.heap.size w w6 := (hbel.trans (Below.refl _ _).drew).trans (below_mapped hbB.out hbel.size hgrow6)
                  have HF := Lib.hid (HNI.out w6 (k * 128 + i + 1) (by omega) ((htm.below ((Below.refl _ _).drew)).mapped hgrow6 ⟨_, hown6, hal.put HSS.out ck cv⟩) hb6)
                  have hc6 := HOC.out w6 hb6
                  clear htm hbel hal hx hrt hss hi hown hown6 hgrow6 hb6
                  go_wp2_with fail
                  go_region_held3 (fun w' => w'.cell? ⟨g, o + k, none⟩ = some (.slice (some ⟨g', o', none⟩) n' c') ∧ w'.cell? ⟨g', o' + i * 3, none⟩ = some (.string ck) ∧ w'.cell? ⟨g', o' + i * 3 + 1, none⟩ = some (.string cv)) (first | assumption | exact hc6 | go_keep)
                    ((fail))
                  go_wp2_with fail
                  go_roundg (n' - (i + 1))
                  case measure => have := HJ3.out; omega
                  case rel => exact HF.out
              · have ek3 : decide ((i : Int) < (n' : Int)) = false := by simp; omega
                have ek4 : decide (i < n') = false := by simp; omega
                have e : l.take i = l := List.take_of_length_le (by rw [HO.out.1.hlen]; omega)
                rw [e, ← HRUN.out] at htm
                have HF := Lib.hid (HNX.out wr (k * 128 + i) (by omega) htm hbel)
                clear htm hbel hi e
                go_wp2_with fail
                go_roundg (n - (k + 1))
                case measure => have := HK.out; omega
                case rel => exact HF.out
        · have hpos : 0 < n' := by
            rw [← HO.out.1.hlen]
            cases l with
            | nil => exact absurd rfl hbad
            | cons x r => simp
          have p1 : decide ((0 : Int) < (n' : Int)) = true := by simp; omega
          have hrun : appT l rs = rs := by unfold appT; rw [if_neg hbad]
          have hnx := HNX.out
          have hap := HAP.out
          rw [hrun] at hap hnx
          have HNX2 := Lib.hid hnx
          rcases chk_cases hbad with hc5 | hc5
          all_goals
            rw [hc5] at hap
            have HAP2 := Lib.hid hap
            clear hap hc5 hbad hrun hnx HNX HAP
            by_cases hlt2 : j < n'
            all_goals
              first
              | (have d1 : (j : Int) < (n' : Int) := by omega)
              | (have d1 : decide ((j : Int) < (n' : Int)) = false := by simp; omega)
              clear hj
              go_wp2_with fail
              refine HAP2.out.mono ?_
              rintro e w3 ⟨rfl, htm, htu⟩
              have HBL3 := Lib.hid (HBL.out.trans (below_not htu HBZ.out))
              have HF := Lib.hid (HNX2.out w3 (k * 128) (by omega) htm HBL3.out)
              have x3 := HO.out.2 w3 HBL3.out
              clear htm htu HAP2
              go_wp2_with fail
              go_loopg [10] 0 (fun cnt s w1 => StillR (.int .i64 0) w3 cnt s w1)
              case atStart => exact ⟨rfl, rfl⟩
              case round =>
                obtain ⟨rfl, rfl⟩ := hrel
                go_wp2_with fail
                go_roundg (n - (k + 1))
                case measure => have := HK.out; omega
                case rel => exact HF.out
    · obtain rfl : k = n := by omega
      have HE := Lib.hid (And.intro (htm.mono (n' := 3840) (by omega)) hbel)
      have hcase : (¬ k < len) ∨ (k < len ∧ ¬ k < 30) := by have := HN.out; omega
      clear htm hbel hkn hlen hlt HT HB HK HN
      have HR2 := Lib.hid (And.intro HR.out HE.out.1.srt)
      generalize tRows ls k = rs at *
      clear HR
      rcases hcase with hc1 | ⟨hc1, hc2⟩
      all_goals
        first
        | (have ek : decide ((k : Int) < (len : Int)) = false := by simp; omega)
        | (have ek : decide ((k : Int) < (len : Int)) = true := by simp; omega)
        first
        | (have ek2 : decide (k < len) = false := by simp; omega)
        | (have ek2 : decide (k < len) = true := by simp; omega)
        try (have ek3 : decide ((k : Int) < 30) = false := by simp; omega)
        try (have ek4 : decide (k < 30) = false := by simp; omega)
        go_wp2_with fail
        obtain ⟨P, hP⟩ := HE.out.1.tab
        refine (Rows_tb P t rs wr hP.tab HR2.out.1.1 (Nat.le_trans HR2.out.1.2.2 (by omega))).mono ?_
        rintro e w3 ⟨v3, rfl, hown, hb⟩
        obtain ⟨A3, c3, hv3⟩ : ∃ A c, v3 = .slice A rs.length c := by obtain ⟨A, c, h, _⟩ := Rws.of_owns hown; exact ⟨A, c, h⟩
        subst hv3
        have H3 := Lib.hid (And.intro (HE.out.1.below hb) (And.intro (Rws.of_owns hown) (HE.out.2.trans (hb.mono HE.out.2.size))))
        clear hb hown hP HE
        have hrun := H3.out.1.mp.len_run
        go_wp2_with fail
        obtain ⟨P, hP⟩ := H3.out.1.tab
        refine (Len_tb hP.tab).mono ?_
        rintro e w' ⟨rfl, rfl⟩
        clear hP
        go_wp2_with fail
        clear hrun
        go_loopg [12] rs.length (fun cnt s w1 => MpRel t b rs (.slice A3 rs.length c3) w cnt s w1)
        case atStart => exact ⟨0, by omega, rfl, H3.out⟩
        case round =>
          clear H3
          obtain ⟨i, hi, rfl, htm, hrws, hbel⟩ := hrel
          have HJ := Lib.hid hi
          have H4 := Lib.hid (And.intro htm (And.intro hrws hbel))
          by_cases hlt4 : i < rs.length
          · have hget := List.getElem?_eq_getElem hlt4
            have hsk := seek_of_mem HR2.out.2 (List.getElem_mem hlt4)
            have hkl : rs[i].k.size ≤ maxLen := by
              have := HR2.out.1.1 _ (List.getElem_mem hlt4)
              unfold reachBytes at this
              unfold maxLen
              omega
            have hprev : ∀ j, i = j + 1 → ∃ y : Row, rs[j]? = some y ∧ Op.bytesLess y.k.toList rs[i].k.toList = true := fun j hj => by
              have hj2 : j < rs.length := by omega
              exact ⟨rs[j], List.getElem?_eq_getElem hj2, (List.pairwise_iff_getElem.1 HR2.out.2) j i hj2 hlt4 (by omega)⟩
            obtain ⟨A4, c4, hu4, hcs⟩ := hrws
            injection hu4 with hu1 _ hu2
            subst hu1 hu2
            obtain ⟨g, o, rfl, y0, y1⟩ := hcs i _ hget
            have HC := Lib.hid hcs
            have HX0 := Lib.hid hget
            generalize rs[i] = x at *
            have HX := HX0
            clear HX0
            have hgV : getV x.k rs = x.v := by unfold getV; rw [hsk]; rfl
            have hgB : getB x.k rs = true := by unfold getB; rw [hsk]; rfl
            have HP := Lib.hid hprev
            have HG := Lib.hid (And.intro hgV hgB)
            have d1 : (i : Int) < (rs.length : Int) := by omega
            have d2 : (0 : Int) ≤ (i : Int) := by omega
            have hrl := HR2.out.1.2.2
            have hrl2 : (rs.length : Int) ≤ 3840 := by omega
            have hgl := World.block_lt_of_cell? wr _ y0
            clear hrl
            clear hcs hget hsk hprev hgV hgB htm hbel hi
            go_wp2_with (at_lookup; refine wpList_look_mp _ rfl _ _ rfl b 3840 rs rfl H4.out.1.mp x.k hkl rfl (by kernel_rfl) ?_; rw [HG.out.1, HG.out.2])
            obtain ⟨W, hW⟩ : ∃ W, wr.alloc (.cells #[.string ⟨#[]⟩, .string x.v] 39) = W := ⟨_, rfl⟩
            rw [hW]
            have hbw : Below wr.heap.size wr W := by rw [← hW]; exact (Below.refl _ _).alloc (Nat.le_refl _) _
            have hblk : Blk W wr.heap.size 39 #[.string ⟨#[]⟩, .string x.v] := by rw [← hW]; exact Blk.new _ _ _
            have H5 := Lib.hid (And.intro (H4.out.1.below hbw) (And.intro (H4.out.2.1.below hbw) (And.intro (H4.out.2.2.trans (hbw.mono H4.out.2.2.size)) hblk)))
            clear hW hbw hblk y0 y1 hgl
            obtain ⟨P, hP⟩ := H5.out.1.tab
            refine (Get_tb x.k hP.tab).mono ?_
            rw [HG.out.1, HG.out.2]
            rintro e w5 ⟨rfl, hb⟩
            have H6 := Lib.hid (And.intro (H5.out.1.below hb) (And.intro (H5.out.2.1.below hb) (H5.out.2.2.1.trans (hb.mono H5.out.2.2.1.size))))
            have hblk := H5.out.2.2.2.below hb H5.out.2.2.2.lt
            have z1 : w5.cell? ⟨wr.heap.size, 1, none⟩ = some (.string x.v) := hblk.cell 1
            have hcw : ∀ j y, rs[j]? = some y → w5.cell? ⟨g, o + j * 2, none⟩ = some (.string y.k) ∧ w5.cell? ⟨g, o + j * 2 + 1, none⟩ = some (.string y.v) := fun j y hy => by
              obtain ⟨A5, c5, hu5, hcs⟩ := H6.out.2.1
              injection hu5 with hu1 _ _
              subst hu1
              obtain ⟨g2, o2, e, z0, z1⟩ := hcs j y hy
              injection e with e
              injection e with e1 e2
              subst e1 e2
              exact ⟨z0, z1⟩
            have HCW := Lib.hid hcw
            obtain ⟨y0, y1⟩ := hcw i x HX.out
            have HREL : Hid (∀ q, MpRel t b rs (.slice (some ⟨g, o, none⟩) rs.length c3) w (rs.length - (i + 1)) (.int .i64 ((i : Int) + 1)) (w5.drewN q)) := fun q =>
              ⟨i + 1, by omega, by simp, H6.out.1.below (below_drewN' (Below.refl _ _) q), H6.out.2.1.below (below_drewN' (Below.refl _ _) q), below_drewN' H6.out.2.2 q⟩
            clear hb hP hblk hcw H5 H4 HC
            generalize wr.heap.size = nb at *
            cases i with
            | zero =>
              go_wp2_with fail
              go_quiet (fail)
              go_wp2_with fail
              go_roundg (rs.length - 1)
              case measure => have := HJ.out; omega
              case rel => exact HREL.out _
            | succ j =>
              obtain ⟨y, hy, hyk⟩ := HP.out j rfl
              obtain ⟨v0, v1⟩ := HCW.out j y hy
              have hlx : Op.bytesLess x.k.toList y.k.toList = false := kl_asymm hyk
              have hex : (x.k.toList == y.k.toList) = false := keq_false (by intro e; rw [e] at hlx hyk; exact absurd (show kl y.k y.k = true from hyk) (by rw [kl_irrefl]; simp))
              have hw1 : IntKind.i64.wrap ((j : Int) + 1 - 1) = (j : Int) := by rw [IntWalk.i64_in _ (by omega)]; omega
              clear hy hyk
              go_wp2_with fail
              go_quiet (fail)
              go_wp2_with fail
              go_roundg (rs.length - (j + 2))
              case measure => have := HJ.out; omega
              case rel => exact HREL.out _
          · have ek5 : decide ((i : Int) < (rs.length : Int)) = false := by simp; omega
            have ek6 : decide (i < rs.length) = false := by simp; omega
            have HL := Lib.hid hbel
            clear htm hrws hbel hi
            go_wp2
            go_ret
            exact ⟨rfl, HL.out⟩

end Tb
end Go.Proofs.Ytoglklldclgcbaa
