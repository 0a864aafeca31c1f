/-
  Walk: the law SkipDoes.
-/
import Derived.Test.YtphfedkfbehigaaAsksWalk
namespace Go.Proofs.Ytphfedkfbehigaa
open Go.RowKit Sk
namespace St

/-- both lists hold these rows; what lay below B lies as it lay -/
def Both (B L p : Nat) (rows : List Row) (w w1 : World) : Prop := Below B w w1 ∧ Sk B w1 L rows ∧ Re B w1 p rows
theorem Both.below {B L p : Nat} {rows : List Row} {w w1 w2 : World} (h : Both B L p rows w w1) (hz : B ≤ w1.heap.size) (hb : Below w1.heap.size w1 w2) : Both B L p rows w w2 :=
  ⟨h.1.trans (hb.mono hz), h.2.1.below hb, h.2.2.below hb⟩
theorem Both.size {B L p : Nat} {rows : List Row} {w w1 : World} (h : Both B L p rows w w1) (hB : B = w.heap.size) : B ≤ w1.heap.size := by
  have := h.1.size; omega
/-- a block of texts turns: neither list's -/
theorem Both.texts {B L p g : Nat} {rows : List Row} {w w1 w2 : World} {cs : Array Value} (h : Both B L p rows w w1) (hg : Blk w1 g 9 cs) (hB : B ≤ g) (ht : w1.grownBy w2 (some g)) (hz : B ≤ w1.heap.size) : Both B L p rows w w2 := by
  have hT := Turns.of_grown ht
  have hk := kind_blk hg
  refine ⟨h.1.trans (hT.to_below hz fun k e => by injection e with e; omega), h.2.1.keep hT fun k hk2 e => ?_, h.2.2.keep hT fun k hk2 e => ?_⟩
  · injection e with e
    subst e
    obtain ⟨_, t, ht, hk3⟩ := hk2
    rw [hk] at hk3
    injection hk3 with hk3
    subst hk3
    exact absurd ht (by decide)
  · injection e with e
    subst e
    obtain ⟨_, t, ht, hk3⟩ := hk2
    rw [hk] at hk3
    injection hk3 with hk3
    subst hk3
    exact absurd ht (by decide)

def DoRel (B L p : Nat) (w : World) (ds : List Deed) (n cnt : Nat) (s : Value) (w1 : World) : Prop :=
  ∃ k, k + cnt = n ∧ s = .int .i64 (k : Nat) ∧ Both B L p (made ds k) w w1
def AskAll (B L p : Nat) (w : World) (rows : List Row) (n cnt : Nat) (s : Value) (w1 : World) : Prop :=
  ∃ k, k + cnt = n ∧ s = .int .i64 (k : Nat) ∧ Both B L p rows w w1
def StepAll (B L p : Nat) (w : World) (rows : List Row) (cnt : Nat) (s : Value) (w1 : World) : Prop :=
  ∃ k, k + cnt = 20 ∧ s = .int .i64 ((k : Int) - 1) ∧ Both B L p rows w w1
def Spoil (B L p : Nat) (w : World) (rows : List Row) (g n cap cnt : Nat) (s : Value) (w1 : World) : Prop :=
  ∃ k xs, k + cnt = n ∧ s = .int .i64 (k : Nat) ∧ Both B L p rows w w1 ∧ w1.ownsRow B 9 1 (.slice (some ⟨g, 0, none⟩) n cap) n xs

set_option maxRecDepth 100000 in
set_option maxHeartbeats 4000000 in
theorem does_walk (A : Option Addr) (len cap : Nat) (ds : List Deed) (w : World) (hlen : ds.length = len) (hds : Deeds w A ds) (hcap : len ≤ cap) (hmax : cap ≤ maxLen) :
    Calls Try.prog 3 #[.slice A len cap] w fun e w' => e = .returned (.bool true) ∧ Below w.heap.size w w' := by
  unfold maxLen at hmax
  obtain ⟨B, hBw⟩ : ∃ B, w.heap.size = B := ⟨_, rfl⟩
  have HBW := Lib.hid hBw
  have HDS := Lib.hid (And.intro hds hlen)
  clear hBw hds hlen
  go_enter Try.func3, Try.ntmps3
  go_wp2_with fail
  refine (New_st w B (by rw [HBW.out]; exact Nat.le_refl _)).mono ?_
  rintro e w1 ⟨rfl, hb1, hs1⟩
  generalize w.heap.size + 1 = L at *
  have H1 := Lib.hid (And.intro (show Below B w w1 from HBW.out ▸ hb1) hs1)
  have z1 : Hid (B ≤ w1.heap.size) := by show _ ≤ _; have := H1.out.1.size; have := HBW.out; omega
  clear hb1 hs1
  go_wp2_with fail
  refine (Rf.New_any w1 B z1.out).mono ?_
  rintro e w2 ⟨rfl, hb2, hr2⟩
  have H2 := Lib.hid (show Both B L w1.heap.size [] w w2 from ⟨H1.out.1.trans (hb2.mono z1.out), H1.out.2.below hb2, ⟨_, hr2⟩⟩)
  have z2 : Hid (B ≤ w2.heap.size) := Nat.le_trans z1.out hb2.size
  clear hb2 hr2
  generalize w1.heap.size = p at *
  clear H1 z1
  go_wp2_with fail
  case' inl =>
    obtain ⟨n, hn, hn1, hn2, hn3⟩ : ∃ n : Nat, n = 80 ∧ n ≤ len ∧ n ≤ 80 ∧ n ≤ cap := ⟨80, rfl, by omega, by omega, by omega⟩
    generalize hV : Value.slice A 80 cap = V
    obtain rfl : V = Value.slice A n cap := by rw [← hV, hn]
    clear hV hn
  case' inr =>
    obtain ⟨n, hn, hn1, hn2, hn3⟩ : ∃ n : Nat, n = len ∧ n ≤ len ∧ n ≤ 80 ∧ n ≤ cap := ⟨len, rfl, by omega, by omega, by omega⟩
    generalize hV : Value.slice A len cap = V
    obtain rfl : V = Value.slice A n cap := by rw [← hV, hn]
    clear hV hn
  all_goals
    clear hcap hmax
    go_loopg [5] n (fun cnt s w1 => DoRel B L p w ds n cnt s w1)
    case atStart => exact ⟨0, by omega, rfl, H2.out⟩
    case round =>
      obtain ⟨k, hk, rfl, hboth⟩ := hrel
      have HK := Lib.hid hk
      have z3 : Hid (B ≤ wr.heap.size) := hboth.size HBW.out.symm
      have hml := made_length ds k
      by_cases hlt : k < n
      · have hl1 : k < ds.length := by have := HDS.out.2; omega
        have hget := List.getElem?_eq_getElem hl1
        have hms := made_succ hget
        obtain ⟨g, o, rfl, hg, c0, c1, c2, c3⟩ := HDS.out.1.below (Nat.le_refl _) (HBW.out ▸ hboth.1) k _ hget
        have HC := Lib.hid (done_any B L p _ ds[k] wr hboth.2.1 hboth.2.2 z3.out (by omega))
        have HM := Lib.hid hms
        generalize ds[k] = d at *
        have HB := Lib.hid hboth.1
        clear hk hboth hml hget hms hg hl1
        go_wp2_with fail
        refine HC.out.mono ?_
        rintro e w4 ⟨rfl, hs4, hr4, hb4⟩
        have H4 : Hid (Both B L p (made ds (k + 1)) w w4) := ⟨HB.out.trans hb4, by rw [HM.out]; exact hs4, by rw [HM.out]; exact hr4⟩
        have hrel : DoRel B L p w ds n (n - (k + 1)) (.int .i64 ((k : Int) + 1)) w4 := ⟨k + 1, by omega, by simp, H4.out⟩
        have HR := Lib.hid hrel
        clear hs4 hr4 hb4 hrel c0 c1 c2 c3
        go_wp2_with fail
        refine (Len_st B L _ _ H4.out.2.1).mono ?_
        rintro e w' ⟨rfl, rfl⟩
        go_wp2_with fail
        refine (RLen_st B p _ _ H4.out.2.2).mono ?_
        rintro e w' ⟨rfl, rfl⟩
        go_wp2_with fail
        go_roundg (n - (k + 1))
        case measure => have := HK.out; omega
        case rel => exact HR.out
      · have hge : n ≤ k := by omega
        obtain ⟨rows, hrows, hrl⟩ : ∃ rows, rows = made ds k ∧ rows.length ≤ 80 := ⟨_, rfl, by have := HK.out; omega⟩
        rw [← hrows] at hboth
        have H5 := Lib.hid hboth
        have ek : decide (k < n) = false := by simp; omega
        clear hk hboth hml hlt hrows H2
        go_wp2_with fail
        go_loopg [6] n (fun cnt s w1 => AskAll B L p w rows n cnt s w1)
        case atStart => exact ⟨0, by omega, rfl, H5.out⟩
        case round =>
          clear H5
          obtain ⟨k2, hk, rfl, hboth⟩ := hrel
          have HK2 := Lib.hid hk
          have z4 : Hid (B ≤ wr.heap.size) := hboth.size HBW.out.symm
          have hrl6 : rows.length ≤ 1000000 := by omega
          by_cases hlt2 : k2 < n
          · have hl1 : k2 < ds.length := by have := HDS.out.2; omega
            have hget := List.getElem?_eq_getElem hl1
            obtain ⟨g, o, rfl, hg, c0, c1, c2, c3⟩ := HDS.out.1.below (Nat.le_refl _) (HBW.out ▸ hboth.1) k2 _ hget
            generalize ds[k2] = d at *
            have J0 := Lib.hid hboth
            have y0 := Lib.hid z4.out
            clear hk hboth hget hg hl1 c0 c2 c3 HK z3 z4
            go_wp2_with fail
            refine (Get_st B L rows _ d.key J0.out.2.1).mono ?_
            rintro e v1 ⟨rfl, hb⟩
            have J1 := Lib.hid (J0.out.below y0.out hb)
            have y1 : Hid (B ≤ v1.heap.size) := Nat.le_trans y0.out hb.size
            clear hb J0 y0 c1
            go_wp2_with fail
            refine (RGet_st B p rows _ d.key J1.out.2.2 hrl6).mono ?_
            rintro e w' ⟨rfl, rfl⟩
            go_wp2_with fail
            refine (First_st B L rows _ d.key J1.out.2.1).mono ?_
            rintro e v2 ⟨rfl, hb⟩
            have J2 := Lib.hid (J1.out.below y1.out hb)
            have y2 : Hid (B ≤ v2.heap.size) := Nat.le_trans y1.out hb.size
            clear hb J1 y1
            go_wp2_with fail
            refine (RFirst_st B p rows _ d.key J2.out.2.2 hrl6).mono ?_
            rintro e w' ⟨rfl, rfl⟩
            go_wp2_with fail
            refine (Last_st B L rows _ d.key J2.out.2.1).mono ?_
            rintro e v3 ⟨rfl, hb⟩
            have J3 := Lib.hid (J2.out.below y2.out hb)
            have y3 : Hid (B ≤ v3.heap.size) := Nat.le_trans y2.out hb.size
            clear hb J2 y2
            go_wp2_with fail
            refine (RLast_st B p rows _ d.key J3.out.2.2 hrl6).mono ?_
            rintro e w' ⟨rfl, rfl⟩
            go_wp2_with fail
            refine (Steps_st B L rows _ d.key J3.out.2.1).mono ?_
            rintro e v4 ⟨rfl, hb⟩
            have J4 := Lib.hid (J3.out.below y3.out hb)
            have y4 : Hid (B ≤ v4.heap.size) := Nat.le_trans y3.out hb.size
            clear hb J3 y3
            go_wp2_with fail
            refine (RSteps_st B p rows _ d.key J4.out.2.2 hrl6).mono ?_
            rintro e w' ⟨rfl, rfl⟩
            go_wp2_with fail
            go_roundg (n - (k2 + 1))
            case measure => have := HK2.out; omega
            case rel => exact ⟨k2 + 1, by omega, by simp, J4.out⟩
          · have hge2 : n ≤ k2 := by omega
            have H6 := Lib.hid hboth
            have ek2 : decide (k2 < n) = false := by simp; omega
            clear hk hboth hlt2 HK
            go_wp2_with fail
            go_loopg [20] 20 (fun cnt s w1 => StepAll B L p w rows cnt s w1)
            case atStart => exact ⟨0, by omega, rfl, H6.out⟩
            case round =>
              clear H6 z3 z4
              obtain ⟨m, hm, rfl, hboth⟩ := hrel
              have HM := Lib.hid hm
              have z5 : Hid (B ≤ wr.heap.size) := hboth.size HBW.out.symm
              by_cases hlt3 : m < 20
              · have J0 := Lib.hid hboth
                clear hm hboth
                go_wp2_with fail
                refine (Step_st B L rows _ _ J0.out.2.1 hrl6).mono ?_
                rintro e v1 ⟨u, rfl, ho, hb⟩
                have J1 := Lib.hid (J0.out.below z5.out hb)
                have y1 : Hid (B ≤ v1.heap.size) := Nat.le_trans z5.out hb.size
                have HO := Lib.hid (owns_mono ho z5.out)
                clear hb ho J0
                go_wp2_with fail
                refine (RStep_st B p rows _ _ J1.out.2.2 hrl6).mono ?_
                rintro e v2 ⟨u2, rfl, ho2, hb⟩
                have J2 := Lib.hid (J1.out.below y1.out hb)
                have y2 : Hid (B ≤ v2.heap.size) := Nat.le_trans y1.out hb.size
                have HO1 := Lib.hid (owns_keep HO.out (S := fun _ => False) (Turns.of_below hb) (fun _ _ h => h))
                have HO2 := Lib.hid ho2
                clear hb ho2 J1 y1 HO
                go_wp2_with fail
                refine (Sm.Same_yes _ _ _ _ (Sm.Strs.of_owns HO1.out) (Sm.Strs.of_owns HO2.out) (Nat.le_trans (Rf.stepKeys_le _ _) (by omega))).mono ?_
                rintro e w' ⟨rfl, q, rfl⟩
                obtain ⟨v3, hv3⟩ : ∃ v3, v2.drewN q = v3 := ⟨_, rfl⟩
                rw [hv3]
                have hb3 : Below v2.heap.size v2 v3 := by rw [← hv3]; exact below_drewN' (Below.refl _ _) q
                have J3 := Lib.hid (J2.out.below y2.out hb3)
                have y3 : Hid (B ≤ v3.heap.size) := Nat.le_trans y2.out hb3.size
                have HO3 := owns_keep HO1.out (S := fun _ => False) (Turns.of_below hb3) (fun _ _ h => h)
                clear hb3 J2 y2 HO1 HO2 hv3 z5
                rcases owns_form HO3 with ⟨rfl, h0, _⟩ | ⟨g, ucap, rfl, hgB, _⟩
                · clear HO3 h0
                  go_wp2_with fail
                  go_loopg [22] 0 (fun cnt s w1 => s = .int .i64 0 ∧ Both B L p rows w w1)
                  case atStart => exact ⟨rfl, J3.out⟩
                  case round =>
                    obtain ⟨rfl, hboth⟩ := hrel
                    have J4 := Lib.hid hboth
                    clear hboth
                    go_wp2_with fail
                    go_roundg (20 - (m + 1))
                    case measure => have := HM.out; omega
                    case rel => exact ⟨m + 1, by omega, by simp, J4.out⟩
                · have hm2 := Rf.stepKeys_le ((m : Int) - 1) rows
                  generalize (Rf.stepKeys ((m : Int) - 1) rows).length = un at *
                  have HO4 := Lib.hid HO3
                  clear HO3
                  go_wp2_with fail
                  go_loopg [22] un (fun cnt s w1 => Spoil B L p w rows g un ucap cnt s w1)
                  case atStart => exact ⟨0, _, by omega, rfl, J3.out, HO4.out⟩
                  case round =>
                    clear J3 y3 HO4
                    obtain ⟨j, xs, hj, rfl, hboth, hown⟩ := hrel
                    have HJ := Lib.hid hj
                    have J4 := Lib.hid hboth
                    have y4 : Hid (B ≤ wr.heap.size) := hboth.size HBW.out.symm
                    by_cases hlt4 : j < un
                    · obtain ⟨x, hx⟩ : ∃ x, xs[j]? = some x := ⟨_, List.getElem?_eq_getElem (by have := hown.1; omega)⟩
                      have d1 : wr.cell? ⟨g, j, none⟩ = some x := (hown.cellAt j (by omega)).trans hx
                      have f1 : wr.frozen? ⟨g, j, none⟩ = false := hown.frozenAt j
                      obtain ⟨hst, hgr⟩ := hown.stored j (.string ⟨#[115, 112, 111, 105, 108, 116]⟩)
                      obtain ⟨cs, hblk⟩ := owns_blk hown
                      have hB5 := J4.out.texts hblk hgB hgr y4.out
                      have HR := Lib.hid (show Spoil B L p w rows g un ucap (un - (j + 1)) (.int .i64 ((j : Int) + 1)) _ from ⟨j + 1, _, by omega, by simp, hB5, hst⟩)
                      clear hj hboth hown hx hst hgr hblk hB5
                      go_wp2_with fail
                      go_roundg (un - (j + 1))
                      case measure => have := HJ.out; omega
                      case rel => exact HR.out
                    · have hge4 : un ≤ j := by omega
                      clear hj hboth hown hlt4
                      go_wp2_with fail
                      go_roundg (20 - (m + 1))
                      case measure => have := HM.out; omega
                      case rel => exact ⟨m + 1, by omega, by simp, J4.out⟩
              · have hm20 : m = 20 := by omega
                subst hm20
                have J0 := Lib.hid hboth
                clear hm hboth hlt3
                go_wp2_with fail
                refine (Step_st B L rows _ 1 J0.out.2.1 hrl6).mono ?_
                rintro e v1 ⟨u, rfl, ho, hb⟩
                have J1 := Lib.hid (J0.out.below z5.out hb)
                have y1 : Hid (B ≤ v1.heap.size) := Nat.le_trans z5.out hb.size
                have HO := Lib.hid (owns_mono ho z5.out)
                clear hb ho J0
                go_wp2_with fail
                refine (RStep_st B p rows _ 1 J1.out.2.2 hrl6).mono ?_
                rintro e v2 ⟨u2, rfl, ho2, hb⟩
                have J2 := Lib.hid (J1.out.below y1.out hb)
                have y2 : Hid (B ≤ v2.heap.size) := Nat.le_trans y1.out hb.size
                have HO1 := Lib.hid (owns_keep HO.out (S := fun _ => False) (Turns.of_below hb) (fun _ _ h => h))
                have HO2 := Lib.hid ho2
                clear hb ho2 J1 y1 HO
                go_wp2_with fail
                refine (Sm.Same_yes _ _ _ _ (Sm.Strs.of_owns HO1.out) (Sm.Strs.of_owns HO2.out) (Nat.le_trans (Rf.stepKeys_le _ _) (by omega))).mono ?_
                rintro e w' ⟨rfl, q, rfl⟩
                obtain ⟨v3, hv3⟩ : ∃ v3, v2.drewN q = v3 := ⟨_, rfl⟩
                rw [hv3]
                have hb3 : Below v2.heap.size v2 v3 := by rw [← hv3]; exact below_drewN' (Below.refl _ _) q
                have J3 := Lib.hid (J2.out.below y2.out hb3)
                have y3 : Hid (B ≤ v3.heap.size) := Nat.le_trans y2.out hb3.size
                clear hb3 J2 y2 HO1 HO2 hv3
                go_wp2_with fail
                refine (Wk.works_any _).mono ?_
                rintro e v5 ⟨rfl, hb⟩
                have HF := Lib.hid (J3.out.1.trans (hb.mono y3.out))
                clear hb
                go_wp2
                go_ret
                exact ⟨rfl, by rw [HBW.out]; exact HF.out⟩

end St
end Go.Proofs.Ytphfedkfbehigaa
