/-
  Walk: 'made' (scriptoriumlaw09): the list that deeds make, and the map of Go that holds the same.
-/
import Derived.Test.YtphfedkfbehigaaDeeds2
import Derived.Test.YtphfedkfbehigaaRowLaws
import Derived.Test.YtphfedkfbehigaaWorks
import Derived.Deep.RegionHeld3
import Derived.Deep.RegionWith
namespace Go.Proofs.Ytphfedkfbehigaa
open Go.RowKit Sk
open Go.Maps (string_keyed)
open Go.WideMaps (keyOf_string_mk)
namespace St

def madeR (d : Deed) (l : List Row) : List Row :=
  if d.kind % 3 = 2 then dropR d.key l else putR d.key d.value (1 + d.steps % 16).toNat l
/-- the rows that the first k deeds make -/
def mrows (ds : List Deed) (k : Nat) : List Row := (ds.take k).foldl (fun r d => madeR d r) []
theorem mrows_zero (ds : List Deed) : mrows ds 0 = [] := rfl
theorem mrows_succ {ds : List Deed} {k : Nat} {d : Deed} (h : ds[k]? = some d) : mrows ds (k + 1) = madeR d (mrows ds k) := by
  have hk := (List.getElem?_eq_some_iff.1 h).1
  have e : ds.take (k + 1) = ds.take k ++ [d] := by
    rw [List.take_succ_eq_append_getElem hk]
    rw [List.getElem?_eq_getElem hk] at h
    injection h with h
    rw [h]
  unfold mrows
  rw [e, List.foldl_append]
  rfl
theorem madeR_length (d : Deed) (l : List Row) : (madeR d l).length ≤ l.length + 1 := by
  unfold madeR
  split
  · exact Nat.le_succ_of_le (dropR_length _ _)
  · exact putR_length _ _ _ _
theorem mrows_length (ds : List Deed) : ∀ k, (mrows ds k).length ≤ k
  | 0 => Nat.le_refl _
  | k + 1 => by
    by_cases h : k < ds.length
    · rw [mrows_succ (List.getElem?_eq_getElem h)]
      exact Nat.le_trans (madeR_length _ _) (Nat.succ_le_succ (mrows_length ds k))
    · have : mrows ds (k + 1) = mrows ds k := by
        unfold mrows
        rw [List.take_of_length_le (by omega), List.take_of_length_le (by omega)]
      rw [this]
      exact Nat.le_succ_of_le (mrows_length ds k)

def MadeRel (B L b : Nat) (w : World) (ds : List Deed) (cnt : Nat) (s : Value) (w1 : World) : Prop :=
  ∃ k, k + cnt = 80 ∧ k ≤ ds.length ∧ s = .int .i64 (k : Nat) ∧ Sk B w1 L (mrows ds k) ∧ Mp w1 b k (mrows ds k) ∧ B ≤ b ∧ Below B w w1

theorem okS_one (n : Int) : okS (1 + n % 16) = true := by
  have h1 : 0 ≤ n % 16 := Int.emod_nonneg _ (by omega)
  have h2 : n % 16 < 16 := Int.emod_lt_of_pos _ (by omega)
  simp [okS]; omega
theorem wf_one (n : Int) : (1 + n % 16) % 18446744073709551616 = 1 + n % 16 := by
  have h1 : 0 ≤ n % 16 := Int.emod_nonneg _ (by omega)
  have h2 : n % 16 < 16 := Int.emod_lt_of_pos _ (by omega)
  omega

theorem put_both (B L b n : Nat) (rows : List Row) (key : ByteArray) (v s : Int) (w0 w : World) (h : Sk B w L rows) (hm : Mp w b n rows) (hb : Below B w0 w) (hB : B ≤ w0.heap.size) (hlen : rows.length ≤ 999999) :
    Calls Try.prog 30 #[.pointer (some ⟨L, 0, none⟩), .string key, .int .i64 v, .int .i64 s] w fun e w' => e = .returned (.bool (okS s)) ∧
      Sk B w' L (if okS s = true then putR key v s.toNat rows else rows) ∧ Mp w' b n rows ∧ Below B w0 w' := by
  have hB' : B ≤ w.heap.size := Nat.le_trans hB hb.size
  exact (Put_st B L rows key v s w h hB' hlen).mono fun e w' ⟨he, hs, ht⟩ => ⟨he, hs, hm.turned ht, hb.trans (below_of ht hB')⟩

theorem put_ok (B L b n : Nat) (rows : List Row) (key : ByteArray) (v s : Int) (w0 w : World) (h : Sk B w L rows) (hm : Mp w b n rows) (hb : Below B w0 w) (hB : B ≤ w0.heap.size) (hlen : rows.length ≤ 999999) :
    Calls Try.prog 30 #[.pointer (some ⟨L, 0, none⟩), .string key, .int .i64 v, .int .i64 (1 + s % 16)] w fun e w' => e = .returned (.bool true) ∧
      Sk B w' L (putR key v (1 + s % 16).toNat rows) ∧ Mp w' b n rows ∧ Below B w0 w' := by
  have := put_both B L b n rows key v (1 + s % 16) w0 w h hm hb hB hlen
  rw [okS_one, if_pos rfl] at this
  exact this

set_option maxRecDepth 100000 in
set_option maxHeartbeats 2000000 in
theorem made_walk (A : Option Addr) (len cap : Nat) (ds : List Deed) (w : World) (hlen : ds.length = len) (hds : Deeds w A ds) (hf : ∀ d ∈ ds, Deed.Fine d) :
    Calls Try.prog 28 #[.slice A len cap] w fun e w' => ∃ L b, e = .returned (.tuple #[.pointer (some ⟨L, 0, none⟩), .map (some b)]) ∧
      Sk w.heap.size w' L (mrows ds 80) ∧ Mp w' b 80 (mrows ds 80) ∧ w.heap.size ≤ b ∧ Below w.heap.size w w' := by
  obtain ⟨B, hBw⟩ : ∃ B, w.heap.size = B := ⟨_, rfl⟩
  have HBW := Lib.hid hBw
  have HBW2 := Lib.hid (show B ≤ w.heap.size by omega)
  have HDS := Lib.hid (And.intro hds (And.intro hlen hf))
  clear hBw hds hlen hf
  have hmm := @run_makeMap Try.prog
  go_enter Try.func28, Try.ntmps28
  go_wp2_with fail
  refine (New_st w B (by rw [HBW.out]; exact Nat.le_refl _)).mono ?_
  rintro e w1 ⟨rfl, hb1, hs1⟩
  generalize w.heap.size + 1 = L at *
  have hb2 : Below B w (w1.alloc (.map #[] 0)) := by
    have h : Below B w w1 := HBW.out ▸ hb1
    exact h.alloc (by have := h.size; have := HBW.out; omega) _
  have hs2 : Sk B (w1.alloc (.map #[] 0)) L [] := hs1.below ((Below.refl _ _).alloc (Nat.le_refl _) _)
  have hm2 : Mp (w1.alloc (.map #[] 0)) w1.heap.size 0 [] := Mp.new w1
  have hB2 : B ≤ w1.heap.size := by have := hb1.size; have := HBW.out; omega
  have H2 := Lib.hid (And.intro hb2 (And.intro hs2 (And.intro hm2 hB2)))
  clear hb1 hs1 hb2 hs2 hm2 hB2
  go_wp2_with fail
  generalize w1.alloc (.map #[] 0) = w2 at *
  generalize w1.heap.size = b at *
  go_loopg [6] 80 (fun cnt s w1 => MadeRel B L b w ds cnt s w1)
  case atStart => exact ⟨0, rfl, Nat.zero_le _, rfl, H2.out.2.1, H2.out.2.2.1, H2.out.2.2.2, H2.out.1⟩
  case round =>
    obtain ⟨k, hk80, hkl, rfl, hs, hm, hbB, hb⟩ := hrel
    have hml := mrows_length ds k
    have HK := Lib.hid (And.intro hk80 (And.intro hkl hbB))
    have z3 : Hid (B ≤ wr.heap.size) := by show _ ≤ _; have := hb.size; have := HBW.out; omega
    have hlen := HDS.out.2.1
    by_cases hlt : k < ds.length ∧ k < 80
    · obtain ⟨hl1, hl2⟩ := hlt
      have hget := List.getElem?_eq_getElem hl1
      have hms := mrows_succ hget
      have hfine := HDS.out.2.2 ds[k] (List.getElem_mem hl1)
      obtain ⟨g, o, rfl, hg, d0, d1, d2, d3⟩ := HDS.out.1 k _ hget
      have hgB : g < B := by have := HBW.out; omega
      have HC := fun (w' : World) (hb' : Below B w w') (x : Nat) => hb'.cell (p := ⟨g, x, none⟩) hgB
      have c0 := (HC _ hb _).trans d0
      have c1 := (HC _ hb _).trans d1
      have c2 := (HC _ hb _).trans d2
      have c3 := (HC _ hb _).trans d3
      have HD := Lib.hid (And.intro d1 (And.intro d2 HC))
      have HD3 := Lib.hid d3
      have HM := Lib.hid (And.intro hms hfine)
      have hval := plainElem_int (H := Unit) Try.underlying3 hfine.value
      generalize ds[k] = d at *
      have hl3 : k < len := by omega
      have hl6 : (mrows ds k).length ≤ 999999 := by omega
      have HB := Lib.hid (And.intro hb (And.intro hs hm))
      have hkey := keyOf_string_mk (P := Try.prog) Try.underlying9 hfine.key
      clear hk80 hkl hs hm hml hget hms hlen hg hb hfine hbB hgB HC d0 d1 d2 d3
      by_cases hk2 : d.kind % 3 = 2
      · have HK2 := Lib.hid hk2
        have e2 : ((2 : Int) == 2) = true := rfl
        clear hk2
        go_wp2_with fail
        refine (Br.Bring_any _ _ _ (by omega) (by omega)).mono ?_
        rintro e w4 ⟨rfl, rfl⟩
        rw [HK2.out]
        go_wp2_with fail
        refine (Drop_st B L _ d.key _ HB.out.2.1 (by omega)).mono ?_
        rintro e w4 ⟨rfl, hs4, ht4⟩
        have hm4 := HB.out.2.2.turned ht4
        have hb4 := HB.out.1.trans (below_of ht4 z3.out)
        have c1' := (HD.out.2.2 _ hb4 _).trans HD.out.1
        obtain ⟨D, hown, hal⟩ := hm4
        have HA := Lib.hid (And.intro hal (And.intro hs4 (And.intro hb4 (And.intro (kind_map hown) (show B ≤ w4.heap.size by have := hb4.size; have := HBW.out; omega)))))
        clear hs4 ht4 hal hb4 c0 c1 c2 c3
        go_wp2_with (at_delete; refine wpList_delete_own _ rfl _ _ 42 9 rfl 3 (string_keyed Try.underlying9) Try.underlying42 _ b k D rfl hown _ _ rfl hkey ?_; intro w5 hown5 hturn5)
        have hrel : MadeRel B L b w ds (79 - k) (.int .i64 ((k : Int) + 1)) w5 := by
          obtain ⟨hal, hs4, hb4, hk4, hB4⟩ := HA.out
          have hbB := HK.out.2.2
          have hk1 := HK.out.1
          have e3 : mrows ds (k + 1) = dropR d.key (mrows ds k) := by rw [HM.out.1]; unfold madeR; rw [if_pos HK2.out]
          refine ⟨k + 1, by omega, hl1, by simp, ?_, ?_, hbB, hb4.trans (below_mapped hbB hB4 hturn5.grown)⟩
          · rw [e3]; exact hs4.mapped hk4 hturn5.grown
          · rw [e3]; exact ⟨_, hown5.mono (Nat.le_succ k), hal.drop (srt_rows HB.out.2.1) _⟩
        have HR := Lib.hid hrel
        clear hrel hown hown5 hturn5 c1'
        go_wp2_with fail
        go_roundg (79 - k)
        case measure => have := HK.out.1; omega
        case rel => exact HR.out
      · have e2 : (d.kind % 3 == 2) = false := by simp; omega
        have HK2 := Lib.hid hk2
        have hst : -9223372036854775808 ≤ 1 + d.steps % 16 ∧ 1 + d.steps % 16 < 9223372036854775808 := by
          have h1 : 0 ≤ d.steps % 16 := Int.emod_nonneg _ (by omega)
          have h2 : d.steps % 16 < 16 := Int.emod_lt_of_pos _ (by omega)
          omega
        have hwr : IntKind.i64.wrap (1 + d.steps % 16) = 1 + d.steps % 16 := IntWalk.i64_in _ (by omega)
        clear hk2 hst
        go_wp2_with fail
        refine (Br.Bring_any _ _ _ (by omega) (by omega)).mono ?_
        rintro e w4 ⟨rfl, rfl⟩
        go_wp2_with fail
        go_region_held3 (fun w' => w'.cell? ⟨g, o + k * 4 + 1, none⟩ = some (.string d.key) ∧ w'.cell? ⟨g, o + k * 4 + 2, none⟩ = some (.int .i64 d.value) ∧ w'.cell? ⟨g, o + k * 4 + 3, none⟩ = some (.int .i64 d.steps)) (first | assumption | go_keep)
          (first
            | (go_at_call 29
               refine (Br.Bring_any d.steps 16 _ (by omega) (by omega)).mono ?_
               rintro e w5 ⟨rfl, rfl⟩)
            | (go_at_call 30
               refine (put_ok B L b k _ d.key _ _ w _ (HB.out.2.1.below ((Below.refl _ _).drew)) (HB.out.2.2.below ((Below.refl _ _).drew)) (HB.out.1.trans ((Below.refl _ _).drew)) HBW2.out hl6).mono ?_
               rintro e w2 ⟨rfl, hs2, hm2, hb2⟩
               have h2 := Lib.hid (And.intro hs2 (And.intro hm2 hb2))
               have c2 := And.intro ((HD.out.2.2 _ hb2 _).trans HD.out.1) (And.intro ((HD.out.2.2 _ hb2 _).trans HD.out.2.1) ((HD.out.2.2 _ hb2 _).trans HD3.out))
               clear hs2 hb2 hm2))
        obtain ⟨c1', c2', c3'⟩ := c2
        obtain ⟨D, hown, hal⟩ := h2.out.2.1
        obtain ⟨w6, hrun, hown6, hgrow6⟩ := hown.drew.update (string_keyed Try.underlying9) Try.underlying42 (by unfold maxLen; omega) hkey hval
        have hb6 : Below B w w6 := h2.out.2.2.trans ((Below.refl B w2).drew.trans (below_mapped HK.out.2.2 (Nat.le_trans HBW2.out h2.out.2.2.size) hgrow6))
        have c61 := (HD.out.2.2 _ hb6 _).trans HD.out.1
        have c62 := (HD.out.2.2 _ hb6 _).trans HD.out.2.1
        have hrel : MadeRel B L b w ds (79 - k) (.int .i64 ((k : Int) + 1)) w6 := by
          have hbB := HK.out.2.2
          have hk1 := HK.out.1
          have e3 : mrows ds (k + 1) = putR d.key d.value (1 + d.steps % 16).toNat (mrows ds k) := by rw [HM.out.1]; unfold madeR; rw [if_neg HK2.out]
          refine ⟨k + 1, by omega, hl1, by simp, ?_, ?_, hbB, hb6⟩
          · rw [e3]; exact (h2.out.1.below (Below.refl _ _).drew).mapped (w' := w6) (kind_map hown) hgrow6
          · rw [e3]; exact ⟨_, hown6, hal.put (srt_rows HB.out.2.1) _ _ _⟩
        have HR := Lib.hid hrel
        clear c0 c1 c2 c3 hal hrel hown6 hgrow6 hb6
        go_wp2_with fail
        go_region_held3 (fun w' => w'.cell? ⟨g, o + k * 4 + 1, none⟩ = some (.string d.key) ∧ w'.cell? ⟨g, o + k * 4 + 2, none⟩ = some (.int .i64 d.value)) (first | assumption | exact ⟨c61, c62⟩ | go_keep)
          ((fail))
        go_wp2_with fail
        go_roundg (79 - k)
        case measure => have := HK.out.1; omega
        case rel => exact HR.out
    · have hk6 : k = 80 ∨ k = ds.length := by omega
      have e80 : mrows ds k = mrows ds 80 := by
        rcases hk6 with rfl | rfl
        · rfl
        · unfold mrows
          rw [List.take_of_length_le (Nat.le_refl _), List.take_of_length_le (by omega)]
      rw [e80] at hs hm
      have HF := Lib.hid (And.intro hs (And.intro (show Mp wr b 80 (mrows ds 80) from by obtain ⟨D, h1, h2⟩ := hm; exact ⟨D, h1.mono (by omega), h2⟩) (And.intro hbB hb)))
      rcases (show len ≤ k ∨ (k < len ∧ 80 ≤ k) by omega) with hge | ⟨hlt2, hge⟩
      all_goals
        clear hb hs hm hk80 hkl hml hlen hlt e80 hk6
        go_wp2
        refine bodyPost_ret (results_tmp2 rfl _ _ _) rfl ?_
        exact ⟨L, b, rfl, by rw [HBW.out]; exact HF.out⟩

end St
end Go.Proofs.Ytphfedkfbehigaa
