/-
  Walk: the law SkipAsks.
-/
import Derived.Test.YtphfedkfbehigaaDeeds
import Derived.Test.YtphfedkfbehigaaWorks
namespace Go.Proofs.Ytphfedkfbehigaa
open Go.RowKit Sk
namespace St

/-- the rows that the first k deeds make -/
def made (ds : List Deed) (k : Nat) : List Row := (ds.take k).foldl (fun r d => deedR d r) []
theorem made_zero (ds : List Deed) : made ds 0 = [] := rfl
theorem made_succ {ds : List Deed} {k : Nat} {d : Deed} (h : ds[k]? = some d) : made ds (k + 1) = deedR d (made ds k) := by
  have hk := (List.getElem?_eq_some_iff.1 h).1
  have e : ds.take (k + 1) = ds.take k ++ [d] := by
    rw [List.take_succ_eq_append_getElem hk]
    rw [List.getElem?_eq_getElem hk] at h
    injection h with h
    rw [h]
  unfold made
  rw [e, List.foldl_append]
  rfl
theorem made_length (ds : List Deed) : ∀ k, (made ds k).length ≤ k
  | 0 => Nat.le_refl _
  | k + 1 => by
    by_cases h : k < ds.length
    · rw [made_succ (List.getElem?_eq_getElem h)]
      exact Nat.le_trans (deedR_length _ _) (Nat.succ_le_succ (made_length ds k))
    · have : made ds (k + 1) = made ds k := by
        unfold made
        rw [List.take_of_length_le (by omega), List.take_of_length_le (by omega)]
      rw [this]
      exact Nat.le_succ_of_le (made_length ds k)

def AskRel (B L p : Nat) (w : World) (ds : List Deed) (cnt : Nat) (s : Value) (w1 : World) : Prop :=
  ∃ k, k + cnt = 80 ∧ k ≤ ds.length ∧ s = .int .i64 (k : Nat) ∧ Sk B w1 L (made ds k) ∧ Re B w1 p (made ds k) ∧ Below B w w1

set_option maxRecDepth 100000 in
set_option maxHeartbeats 2000000 in
theorem asks_walk (A : Option Addr) (len cap : Nat) (ds : List Deed) (key : ByteArray) (w : World) (hlen : ds.length = len) (hds : Deeds w A ds) :
    Calls Try.prog 4 #[.slice A len cap, .string key] w fun e w' => e = .returned (.bool true) ∧ Below w.heap.size w w' := by
  obtain ⟨B, hBw⟩ : ∃ B, w.heap.size = B := ⟨_, rfl⟩
  have HBW := Lib.hid hBw
  have HDS := Lib.hid (And.intro hds hlen)
  clear hBw hds hlen
  go_enter Try.func4, Try.ntmps4
  go_wp2_with fail
  refine (New_st w B (by rw [HBW.out]; exact Nat.le_refl _)).mono ?_
  rintro e w1 ⟨rfl, hb1, hs1⟩
  generalize w.heap.size + 1 = L at *
  have H1 := Lib.hid (And.intro (show Below B w w1 from HBW.out ▸ hb1) hs1)
  have z1 : Hid (B ≤ w1.heap.size) := by show _ ≤ _; have := H1.out.1.size; have := HBW.out; omega
  clear hb1 hs1
  go_wp2_with fail
  refine (Rf.New_any w1 B z1.out).mono ?_
  rintro e w2 ⟨rfl, hb2, hr2⟩
  have H2 := Lib.hid (And.intro (H1.out.1.trans (hb2.mono z1.out)) (And.intro (H1.out.2.below hb2) (show Re B w2 w1.heap.size [] from ⟨_, hr2⟩)))
  have z2 : Hid (B ≤ w2.heap.size) := Nat.le_trans z1.out hb2.size
  clear hb2 hr2
  generalize w1.heap.size = p at *
  clear H1 z1
  go_wp2_with fail
  go_loopg [7] 80 (fun cnt s w1 => AskRel B L p w ds cnt s w1)
  case atStart => exact ⟨0, rfl, Nat.zero_le _, rfl, H2.out.2.1, H2.out.2.2, H2.out.1⟩
  case round =>
    obtain ⟨k, hk80, hkl, rfl, hs, hr, hb⟩ := hrel
    have hml := made_length ds k
    have HK := Lib.hid (And.intro hk80 hkl)
    have z3 : Hid (B ≤ wr.heap.size) := by show _ ≤ _; have := hb.size; have := HBW.out; omega
    have hlen := HDS.out.2
    by_cases hlt : k < ds.length ∧ k < 80
    · obtain ⟨hl1, hl2⟩ := hlt
      have hget := List.getElem?_eq_getElem hl1
      have hms := made_succ hget
      obtain ⟨g, o, rfl, hg, c0, c1, c2, c3⟩ := HDS.out.1.below (Nat.le_refl _) (HBW.out ▸ hb) k _ hget
      have HC := Lib.hid (done_any B L p _ ds[k] wr hs hr z3.out (by omega))
      have HM := Lib.hid hms
      generalize ds[k] = d at *
      have hl3 : k < len := by omega
      have HB := Lib.hid hb
      clear hk80 hkl hs hr hml hget hms hlen hg hb
      go_wp2_with fail
      refine HC.out.mono ?_
      rintro e w4 ⟨rfl, hs4, hr4, hb4⟩
      have hrel : AskRel B L p w ds (79 - k) (.int .i64 ((k : Int) + 1)) w4 := by
        refine ⟨k + 1, by have := HK.out; omega, hl1, by simp, ?_, ?_, HB.out.trans hb4⟩
        · rw [HM.out]; exact hs4
        · rw [HM.out]; exact hr4
      have HR := Lib.hid hrel
      clear hs4 hr4 hb4 hrel c0 c1 c2 c3
      go_wp2_with fail
      go_roundg (79 - k)
      case measure => have := HK.out.1; omega
      case rel => exact HR.out
    · have hfin : ∃ rows, rows = made ds k ∧ rows.length ≤ 80 := ⟨_, rfl, by have := HK.out; omega⟩
      obtain ⟨rows, hrows, hrl⟩ := hfin
      rw [← hrows] at hs hr
      have H0 := Lib.hid (And.intro hb (And.intro hs hr))
      have z0 : Hid (B ≤ wr.heap.size) := z3.out
      have hrl6 : rows.length ≤ 1000000 := by omega
      rcases (show len ≤ k ∨ (k < len ∧ 80 ≤ k) by omega) with hge | ⟨hlt2, hge⟩
      all_goals
        clear hb hs hr hk80 hkl hml hlen hlt hrows
        go_wp2_with fail
        refine (Get_st B L rows _ key H0.out.2.1).mono ?_
        rintro e w1' ⟨rfl, hb⟩
        have H1 := Lib.hid (And.intro (H0.out.1.trans (hb.mono z0.out)) (And.intro (H0.out.2.1.below hb) (H0.out.2.2.below hb)))
        have z1 : Hid (B ≤ w1'.heap.size) := Nat.le_trans z0.out hb.size
        clear hb H0 z0
        go_wp2_with fail
        refine (RGet_st B p rows _ key H1.out.2.2 hrl6).mono ?_
        rintro e w' ⟨rfl, rfl⟩
        go_wp2_with fail
        refine (First_st B L rows _ key H1.out.2.1).mono ?_
        rintro e w2' ⟨rfl, hb⟩
        have H2 := Lib.hid (And.intro (H1.out.1.trans (hb.mono z1.out)) (And.intro (H1.out.2.1.below hb) (H1.out.2.2.below hb)))
        have z2 : Hid (B ≤ w2'.heap.size) := Nat.le_trans z1.out hb.size
        clear hb H1 z1
        go_wp2_with fail
        refine (RFirst_st B p rows _ key H2.out.2.2 hrl6).mono ?_
        rintro e w' ⟨rfl, rfl⟩
        go_wp2_with fail
        refine (Last_st B L rows _ key H2.out.2.1).mono ?_
        rintro e w3' ⟨rfl, hb⟩
        have H3 := Lib.hid (And.intro (H2.out.1.trans (hb.mono z2.out)) (And.intro (H2.out.2.1.below hb) (H2.out.2.2.below hb)))
        have z3 : Hid (B ≤ w3'.heap.size) := Nat.le_trans z2.out hb.size
        clear hb H2 z2
        go_wp2_with fail
        refine (RLast_st B p rows _ key H3.out.2.2 hrl6).mono ?_
        rintro e w' ⟨rfl, rfl⟩
        go_wp2_with fail
        refine (Steps_st B L rows _ key H3.out.2.1).mono ?_
        rintro e w4' ⟨rfl, hb⟩
        have H4 := Lib.hid (And.intro (H3.out.1.trans (hb.mono z3.out)) (And.intro (H3.out.2.1.below hb) (H3.out.2.2.below hb)))
        have z4 : Hid (B ≤ w4'.heap.size) := Nat.le_trans z3.out hb.size
        clear hb H3 z3
        go_wp2_with fail
        refine (RSteps_st B p rows _ key H4.out.2.2 hrl6).mono ?_
        rintro e w' ⟨rfl, rfl⟩
        go_wp2_with fail
        refine (Wk.works_any _).mono ?_
        rintro e w5' ⟨rfl, hb⟩
        have HF := Lib.hid (H4.out.1.trans (hb.mono z4.out))
        clear hb
        go_wp2
        go_ret
        exact ⟨rfl, by rw [HBW.out]; exact HF.out⟩

end St
end Go.Proofs.Ytphfedkfbehigaa
