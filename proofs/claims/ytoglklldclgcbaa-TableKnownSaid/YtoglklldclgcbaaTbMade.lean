/-
  Walk: 'made': the table that batches make, and the map of Go that holds the same.
-/
import Derived.Test.YtoglklldclgcbaaTbMap
import Derived.Test.YtoglklldclgcbaaTbDoesWalk
namespace Go.Proofs.Ytoglklldclgcbaa
open Go.RowKit Sk
open Go.Maps (string_keyed)
open Go.WideMaps (keyOf_string_mk)
namespace Tb

theorem srt_oneT {r : List Row} (hs : Srt Row.k r) (o : Chg) : Srt Row.k (oneT r o) := by
  unfold oneT
  split
  · exact srt_dropT hs _
  · exact srt_putT hs _ _
theorem srt_runT {r : List Row} (hs : Srt Row.k r) (l : List Chg) : Srt Row.k (runT l r) := by
  unfold runT
  induction l generalizing r with
  | nil => exact hs
  | cons o l ih => exact ih (srt_oneT hs o)

/-- a table and a map, apart from each other, and from the blocks F -/
structure TM (F : Nat → Prop) (t b n : Nat) (r1 r2 : List Row) (w : World) : Prop where
  ex : ∃ P, At P w t r1 ∧ (∀ k, P k → ¬ F k) ∧ ¬ P b
  mp : Mp w b n r2
  bF : ¬ F b
  fl : ∀ k, F k → k < w.heap.size
section
variable {F : Nat → Prop} {t b n : Nat} {r1 r2 : List Row} {w : World}
theorem TM.keep (h : TM F t b n r1 r2 w) {w' : World} {S : Nat → Prop} (ht : Turns S w w') (hS : ∀ k, k < w.heap.size → S k → F k) : TM F t b n r1 r2 w' := by
  obtain ⟨P, h1, h2, h3⟩ := h.ex
  have ht' : Turns F w w' := ht.mono fun k hk hs => hS k hk hs
  exact ⟨⟨P, h1.keep ht' h2, h2, h3⟩, h.mp.keep ht' h.bF, h.bF, fun k hk => Nat.lt_of_lt_of_le (h.fl k hk) ht.size⟩
theorem TM.below (h : TM F t b n r1 r2 w) {w' : World} (hb : Below w.heap.size w w') : TM F t b n r1 r2 w' := h.keep (S := fun _ => False) (Turns.of_below hb) fun _ _ h => h.elim
theorem TM.mono (h : TM F t b n r1 r2 w) {n' : Nat} (hn : n ≤ n') : TM F t b n' r1 r2 w := ⟨h.ex, h.mp.mono hn, h.bF, h.fl⟩
theorem TM.srt (h : TM F t b n r1 r2 w) : Srt Row.k r1 := by obtain ⟨P, h1, _⟩ := h.ex; exact h1.tab.srt
theorem TM.tab (h : TM F t b n r1 r2 w) : ∃ P, At P w t r1 := by obtain ⟨P, h1, _⟩ := h.ex; exact ⟨P, h1⟩
theorem TM.apply (h : TM F t b n r1 r2 w) {A : Option Addr} {len cap : Nat} {l : List Chg} (ho : Ops w A len cap l) (hA : ∀ g o, A = some ⟨g, o, none⟩ → l ≠ [] → F g) (hr : r1.length ≤ 900000) :
    Calls Try.prog 14 #[TP t, .slice A len cap] w fun e w' => e = .returned (.int .i64 (chkO l)) ∧ TM F t b n (appT l r1) r2 w' ∧ Turns (fun k => ¬ F k) w w' := by
  obtain ⟨P, h1, h2, h3⟩ := h.ex
  refine (Apply_at h1 ho (fun g o hg hl hp => h2 g hp (hA g o hg hl)) hr).mono fun e w' ⟨he, ht, hturn⟩ => ⟨he, ⟨⟨_, ht, fun k hk hF => ?_, fun hb => ?_⟩, h.mp.keep hturn h3, h.bF, fun k hk => Nat.lt_of_lt_of_le (h.fl k hk) hturn.size⟩, hturn.mono fun k _ hk => h2 k hk⟩
  · rcases hk with hk | hk
    · exact h2 k hk hF
    · have := h.fl k hF; omega
  · rcases hb with hb | hb
    · exact h3 hb
    · have := h.mp.lt; omega
theorem TM.mapped (h : TM F t b n r1 r2 w) {w' : World} (hg : w.grownBy w' (some b)) {n' : Nat} {r3 : List Row} (hm : Mp w' b n' r3) : TM F t b n' r1 r3 w' := by
  obtain ⟨P, h1, h2, h3⟩ := h.ex
  exact ⟨⟨P, h1.keep (Turns.of_grown hg) (fun k hk e => h3 (by injection e with e; rw [e]; exact hk)), h2, h3⟩, hm, h.bF, fun k hk => Nat.lt_of_lt_of_le (h.fl k hk) hg.size⟩
end

def MadeR (t b : Nat) (ls : List (List Chg)) (w : World) (n cnt : Nat) (s : Value) (w1 : World) : Prop :=
  ∃ k, k + cnt = n ∧ s = .int .i64 (k : Nat) ∧ TM (fun k => k < w.heap.size) t b (k * 128) (tRows ls k) (tRows ls k) w1 ∧ Below w.heap.size w w1
def MadeI (t b k : Nat) (l : List Chg) (rs rs' : List Row) (w : World) (n cnt : Nat) (s : Value) (w1 : World) : Prop :=
  ∃ j, j + cnt = n ∧ s = .int .i64 (j : Nat) ∧ TM (fun k => k < w.heap.size) t b (k * 128 + j) rs' (runT (l.take j) rs) w1 ∧ Below w.heap.size w w1

set_option maxRecDepth 100000 in
set_option maxHeartbeats 4000000 in
theorem made_any (A : Option Addr) (len cap : Nat) (ls : List (List Chg)) (sd : Int) (w : World) (hb : Bts w A len cap ls) (hf : ∀ l ∈ ls, ∀ o ∈ l, Chg.Fine o) :
    Calls Try.prog 27 #[.int .i64 sd, .slice A len cap] w fun e w' => ∃ t b, e = .returned (.tuple #[TP t, .map (some b)]) ∧ TM (fun k => k < w.heap.size) t b 3840 (tRows ls (min len 30)) (tRows ls (min len 30)) w' ∧ Below w.heap.size w w' := by
  have HB := Lib.hid (And.intro hb hf)
  obtain ⟨n, hn, hn1, hn2⟩ : ∃ n, n = min len 30 ∧ n ≤ len ∧ n ≤ 30 := ⟨_, rfl, Nat.min_le_left _ _, Nat.min_le_right _ _⟩
  rw [← hn]
  have HN := Lib.hid hn
  have hmm := @run_makeMap Try.prog
  clear hb hf hn
  go_enter Try.func27, Try.ntmps27
  go_wp2_with fail
  refine (New_at sd w).mono ?_
  rintro e w1 ⟨t, rfl, h1, hb1⟩
  have H1 : Hid (TM (fun k => k < w.heap.size) t w1.heap.size 0 [] [] (w1.alloc (.map #[] 0)) ∧ Below w.heap.size w (w1.alloc (.map #[] 0))) := by
    have hb2 : Below w1.heap.size w1 (w1.alloc (.map #[] 0)) := (Below.refl _ _).alloc (Nat.le_refl _) _
    have hs := hb1.size
    refine ⟨⟨⟨_, h1.below hb2, fun k hk hF => ?_, fun hk => ?_⟩, Mp.new w1, fun hF => by omega, fun k hk => ?_⟩, hb1.trans (hb2.mono hs)⟩
    · have := hk.1; omega
    · have := hk.2; omega
    · have := hb2.size; omega
  clear h1 hb1
  go_wp2_with fail
  generalize w1.alloc (.map #[] 0) = w2 at *
  generalize w1.heap.size = b at *
  go_loopg [8] n (fun cnt s w1 => MadeR t b ls w n cnt s w1)
  case atStart => exact ⟨0, by omega, rfl, H1.out⟩
  case round =>
    clear H1 hmm
    obtain ⟨k, hkn, rfl, htm, hbel⟩ := hrel
    have HK := Lib.hid hkn
    have HT := Lib.hid (And.intro htm hbel)
    have hlen := tRows_len ls k
    by_cases hlt : k < n
    · obtain ⟨l, hq⟩ : ∃ l, ls[k]? = some l := ⟨_, List.getElem?_eq_getElem (by rw [HB.out.1.hlen]; omega)⟩
      obtain ⟨g, o, A', n', c', rfl, hcell, hops⟩ := HB.out.1.cell k l hq
      have hcw : ∀ w', Below w.heap.size w w' → w'.cell? ⟨g, o + k, none⟩ = some (.slice A' n' c') := fun w' hb => (hb.cell (p := ⟨g, _, none⟩) (World.block_lt_of_cell? w _ hcell)).trans hcell
      have b1 : (k : Int) < (len : Int) := by omega
      have b2 : (0 : Int) ≤ (k : Int) := by omega
      have b3 : (k : Int) < 30 := by omega
      have x0 := hcw wr hbel
      have hl9 : (tRows ls k).length ≤ 900000 := by omega
      have hts := tRows_succ hq
      have HFI := Lib.hid (HB.out.2 l (List.mem_of_getElem? hq))
      have HO := Lib.hid (And.intro hops hcw)
      have HBZ := Lib.hid (show w.heap.size ≤ wr.heap.size from hbel.size)
      have HNX : Hid (∀ w3 m, m ≤ (k + 1) * 128 → TM (fun k => k < w.heap.size) t b m (appT l (tRows ls k)) (appT l (tRows ls k)) w3 → Below w.heap.size w w3 → MadeR t b ls w n (n - (k + 1)) (.int .i64 ((k : Int) + 1)) w3) := fun w3 m hm h3 h4 =>
        ⟨k + 1, by omega, by simp, by rw [hts]; exact h3.mono hm, h4⟩
      have hap := (HT.out.1).apply (HO.out.1.below HT.out.2) HO.out.1.f hl9
      have HS := Lib.hid HT.out.1.srt
      generalize tRows ls k = rs at *
      by_cases hc : chkO l = 0
      · have hrun : appT l rs = runT l rs := by unfold appT; rw [if_pos hc]
        have hl8 := (chk_zero hc).1
        have hn8 : n' ≤ 128 := by rw [← hops.hlen]; exact hl8
        rw [hc] at hap
        have HAP := Lib.hid hap
        have HRUN := Lib.hid hrun
        have HBL := Lib.hid hbel
        clear htm hbel hkn hlen hq hcell hops hcw hts hc hap hrun hl8 HT
        go_wp2_with fail
        refine HAP.out.mono ?_
        rintro e w3 ⟨rfl, htm, htu⟩
        have H3 : Hid (MadeI t b k l rs (appT l rs) w n' n' (.int .i64 0) w3) := ⟨0, by omega, rfl, htm, HBL.out.trans (below_not htu HBZ.out)⟩
        clear htm htu HAP HBL
        go_wp2_with fail
        go_loopg [9] n' (fun cnt s w1 => MadeI t b k l rs (appT l rs) w n' cnt s w1)
        case atStart => exact H3.out
        case round =>
          clear H3 x0
          obtain ⟨j, hj, rfl, htm, hbel⟩ := hrel
          have HJ := Lib.hid hj
          have x0 := HO.out.2 wr hbel
          by_cases hlt2 : j < n'
          · obtain ⟨c, hx⟩ : ∃ c, l[j]? = some c := ⟨_, List.getElem?_eq_getElem (by rw [HO.out.1.hlen]; exact hlt2)⟩
            obtain ⟨g', o', rfl, y0, y1, y2⟩ := (HO.out.1.below hbel).cell j c hx
            have d1 : (j : Int) < (n' : Int) := by omega
            have d2 : (0 : Int) ≤ (j : Int) := by omega
            have hrt := runT_take (rows := rs) hx
            have hkey := keyOf_string_mk (P := Try.prog) Try.underlying9 (HFI.out c (List.mem_of_getElem? hx)).key
            have hss := srt_runT HS.out (l.take j)
            have HNI : Hid (∀ w5 m, m ≤ k * 128 + (j + 1) → TM (fun k => k < w.heap.size) t b m (appT l rs) (oneT (runT (l.take j) rs) c) w5 → Below w.heap.size w w5 → MadeI t b k l rs (appT l rs) w n' (n' - (j + 1)) (.int .i64 ((j : Int) + 1)) w5) := fun w5 m hm h5 h6 =>
              ⟨j + 1, by omega, by simp, by rw [hrt]; exact h5.mono hm, h6⟩
            have hbB : Hid (w.heap.size ≤ b) := Nat.le_of_not_lt htm.bF
            have HSS := Lib.hid hss
            obtain ⟨ck, cv, cd⟩ := c
            generalize runT (l.take j) rs = rj at *
            simp only at y0 y1 y2 hkey
            cases cd with
            | true =>
              have hbw : Below wr.heap.size wr (wr.alloc (.cells #[.string ck, .string cv, .bool true] 32)) := (Below.refl _ _).alloc (Nat.le_refl _) _
              have htw := htm.below hbw
              obtain ⟨D, hown, hal⟩ := htw.mp
              have HW := Lib.hid (And.intro htw (And.intro (hbel.trans (hbw.mono hbel.size)) hal))
              clear htm hbel hbw htw hal hx hrt hss hj
              go_wp2_with (at_delete; refine wpList_delete_own _ rfl _ _ 51 9 rfl 39 (string_keyed Try.underlying9) Try.underlying51 _ b (k * 128 + j) D rfl hown _ _ rfl hkey ?_; intro w5 hown5 hturn5)
              have HF := Lib.hid (HNI.out w5 (k * 128 + j) (by omega) (HW.out.1.mapped hturn5.grown ⟨_, hown5, HW.out.2.2.drop HSS.out ck⟩) (HW.out.2.1.trans (below_mapped hbB.out HW.out.2.1.size hturn5.grown)))
              clear hown hown5 hturn5
              go_wp2_with fail
              go_roundg (n' - (j + 1))
              case measure => have := HJ.out; omega
              case rel => exact HF.out
            | false =>
              have hbw : Below wr.heap.size wr (wr.alloc (.cells #[.string ck, .string cv, .bool false] 32)) := (Below.refl _ _).alloc (Nat.le_refl _) _
              have htw := htm.below hbw
              obtain ⟨D, hown, hal⟩ := htw.mp
              have HW := Lib.hid (And.intro htw (And.intro (hbel.trans (hbw.mono hbel.size)) hal))
              clear htm hbel hbw htw hal hx hrt hss hj
              go_wp2_with (at_mapUpdate; refine wpList_mapUpdate_own _ rfl _ _ _ 51 rfl 9 39 (string_keyed Try.underlying9) Try.underlying51 _ b (k * 128 + j) D rfl hown (by unfold maxLen; omega) _ _ (klit ck) rfl rfl hkey _ [] (rowElem_mk cv) ?_; intro w5 hown5 hg5)
              have HF := Lib.hid (HNI.out w5 (k * 128 + j + 1) (by omega) (HW.out.1.mapped hg5 ⟨_, hown5, HW.out.2.2.put HSS.out ck cv⟩) (HW.out.2.1.trans (below_mapped hbB.out HW.out.2.1.size hg5)))
              clear hown hown5 hg5
              go_wp2_with fail
              go_roundg (n' - (j + 1))
              case measure => have := HJ.out; omega
              case rel => exact HF.out
          · have ek : decide ((j : Int) < (n' : Int)) = false := by simp; omega
            have ek2 : decide (j < n') = false := by simp; omega
            have e : l.take j = l := List.take_of_length_le (by rw [HO.out.1.hlen]; omega)
            rw [e, ← HRUN.out] at htm
            have HF := Lib.hid (HNX.out wr (k * 128 + j) (by omega) htm hbel)
            clear htm hbel hj e
            go_wp2_with fail
            go_roundg (n - (k + 1))
            case measure => have := HK.out; omega
            case rel => exact HF.out
      · have hrun : appT l rs = rs := by unfold appT; rw [if_neg hc]
        have hcase : chkO l = 5 ∨ chkO l = 2 := by
          unfold chkO at hc ⊢
          split
          · exact .inl rfl
          · split
            · exact .inr rfl
            · rename_i h1 h2; rw [if_neg h1, if_neg h2] at hc; exact absurd rfl hc
        rw [hrun] at hap HNX
        have HBL := Lib.hid hbel
        rcases hcase with hc5 | hc5
        all_goals
          rw [hc5] at hap
          have HAP := Lib.hid hap
          clear htm hbel hkn hlen hq hcell hops hcw hts hc hap hrun hc5 HT
          go_wp2_with fail
          refine HAP.out.mono ?_
          rintro e w3 ⟨rfl, htm, htu⟩
          have HF := Lib.hid (HNX.out w3 (k * 128) (by omega) htm (HBL.out.trans (below_not htu HBZ.out)))
          clear htm htu HAP HBL
          go_wp2_with fail
          go_roundg (n - (k + 1))
          case measure => have := HK.out; omega
          case rel => exact HF.out
    · obtain rfl : k = n := by omega
      have HE := Lib.hid (And.intro (htm.mono (n' := 3840) (by omega)) hbel)
      have hcase : (¬ k < len) ∨ (k < len ∧ ¬ k < 30) := by have := HN.out; omega
      clear htm hbel hkn hlen hlt HT HB HK HN
      rcases hcase with hc1 | ⟨hc1, hc2⟩
      all_goals
        first
        | (have ek : decide ((k : Int) < (len : Int)) = false := by simp; omega)
        | (have ek : decide ((k : Int) < (len : Int)) = true := by simp; omega)
        first
        | (have ek2 : decide (k < len) = false := by simp; omega)
        | (have ek2 : decide (k < len) = true := by simp; omega)
        try (have ek3 : decide ((k : Int) < 30) = false := by simp; omega)
        try (have ek4 : decide (k < 30) = false := by simp; omega)
        go_wp2
        refine bodyPost_ret (results_tmp2 rfl _ _ _) rfl ?_
        exact ⟨t, b, rfl, HE.out⟩

end Tb
end Go.Proofs.Ytoglklldclgcbaa
