/-
  Walk: the law TableDoes.
-/
import Derived.Test.YtoglklldclgcbaaTbRangesWalk
namespace Go.Proofs.Ytoglklldclgcbaa
open Go.RowKit Sk
namespace Tb

theorem op_info : (Try.prog.info? 32).map (fun i => (i.zero, i.size, i.bytes)) = some (some (.agg #[.string ⟨#[]⟩, .string ⟨#[]⟩, .bool false]), 3, 40) := by kernel_rfl
theorem opC_one : ∀ x : Chg, ∀ u ∈ opC x, u.oneCell' = true := by
  intro x u hu
  simp only [opC, List.mem_cons, List.not_mem_nil, or_false] at hu
  rcases hu with rfl | rfl | rfl <;> rfl
/-- the changes in memory, as cells of a row -/
theorem Ops.src {w : World} {A : Option Addr} {len cap : Nat} {l : List Chg} (h : Ops w A len cap l) : ∀ ad, A = some ad → ∀ (j : Nat) (u : Value), (flat opC l)[j]? = some u → w.cell? (ad.add j) = some u := by
  intro ad hA j u hu
  have hj := (List.getElem?_eq_some_iff.1 hu).1
  rw [flat_length opC_len] at hj
  obtain ⟨k, i, hk, hi, rfl⟩ : ∃ k i, k < l.length ∧ i < 3 ∧ j = k * 3 + i := ⟨j / 3, j % 3, by omega, by omega, by omega⟩
  obtain ⟨x, hx⟩ : ∃ x, l[k]? = some x := ⟨_, List.getElem?_eq_getElem hk⟩
  rw [flat_get opC_len hx hi] at hu
  obtain ⟨g, o, hA', c0, c1, c2⟩ := h.cell k x hx
  rw [hA] at hA'
  injection hA' with hA'
  subst hA'
  rw [addr_add]
  match i, hi with
  | 0, _ => injection hu with hu; subst hu; exact c0
  | 1, _ => injection hu with hu; subst hu; exact c1
  | 2, _ => injection hu with hu; subst hu; exact c2

theorem Ops.of_owns {w : World} {b n : Nat} {v : Value} {l : List Chg} (h : w.ownsRow b 32 3 v n (flat opC l)) (hn : l.length = n) : ∃ A c, v = .slice A n c ∧ Ops w A n c l ∧ ∀ g o, A = some ⟨g, o, none⟩ → b ≤ g ∧ g < w.heap.size := by
  rcases owns_form h with ⟨rfl, h0, _⟩ | ⟨g, cap, rfl, _, hcap⟩
  · exact ⟨none, 0, by rw [h0], ⟨hn, by omega, fun _ => rfl, fun k x hx => by have := (List.getElem?_eq_some_iff.1 hx).1; omega⟩, fun g o e => by cases e⟩
  · refine ⟨some ⟨g, 0, none⟩, cap, rfl, ⟨hn, hcap, (fun e => by cases e), fun k x hx => ⟨g, 0, rfl, ?_⟩⟩, fun g' o e => ?_⟩
    · have hc := h.cells (g := g) rfl
      have key : ∀ j u, j < 3 → (opC x)[j]? = some u → w.cell? ⟨g, 0 + (k * 3 + j), none⟩ = some u := fun j u hj hu => by
        have := hc (k * 3 + j) u (by rw [flat_get opC_len hx hj]; exact hu)
        rw [addr_add] at this
        exact this
      exact ⟨key 0 _ (by omega) rfl, by have := key 1 _ (by omega) rfl; rw [Nat.add_assoc]; exact this, by have := key 2 _ (by omega) rfl; rw [Nat.add_assoc]; exact this⟩
    · injection e with e
      injection e with e
      subst e
      exact h.lt g rfl
def DoesRel (t p : Nat) (ls : List (List Chg)) (w : World) (n cnt : Nat) (s : Value) (w1 : World) : Prop :=
  ∃ k, k + cnt = n ∧ s = .int .i64 (k : Nat) ∧ Two (fun k => k < w.heap.size) t p (tRows ls k) (tRows ls k) w1 ∧ Below w.heap.size w w1
/-- what is left of the changes handed in -/
def InR (F : Nat → Prop) (t p : Nat) (rs : List Row) (l : List Chg) (n b : Nat) (v : Value) (w : World) (cnt : Nat) (s : Value) (w1 : World) : Prop :=
  ∃ k xs, k + cnt = n ∧ s = .int .i64 (k : Nat) ∧ w1.ownsRow b 32 3 v n xs ∧ (∀ j, k * 3 ≤ j → xs[j]? = (flat opC l)[j]?) ∧ Two F t p rs rs w1 ∧ Below w.heap.size w w1
def RowR (F : Nat → Prop) (t p : Nat) (rs : List Row) (n b : Nat) (v : Value) (w : World) (cnt : Nat) (s : Value) (w1 : World) : Prop :=
  ∃ k xs, k + cnt = n ∧ s = .int .i64 (k : Nat) ∧ w1.ownsRow b 39 2 v n xs ∧ Two F t p rs rs w1 ∧ Below w.heap.size w w1

theorem InR.spoil {F : Nat → Prop} {t p : Nat} {rs : List Row} {l : List Chg} {n b G c k : Nat} {w0 w : World} {xs : List Value} (hown : w.ownsRow b 32 3 (.slice (some ⟨G, 0, none⟩) n c) n xs) (hxs : ∀ j, k * 3 ≤ j → xs[j]? = (flat opC l)[j]?) (htwo : Two F t p rs rs w) (hbel : Below w0.heap.size w0 w)
    (hF : F G) (hB : w0.heap.size ≤ b) (hk : k < n) (q : Nat) (u1 u2 u3 : Value) :
    InR F t p rs l n b (.slice (some ⟨G, 0, none⟩) n c) w0 (n - (k + 1)) (.int .i64 ((k : Int) + 1)) ((((w.drewN q).setCell ⟨G, k * 3, none⟩ u1).setCell ⟨G, k * 3 + 1, none⟩ u2).setCell ⟨G, k * 3 + 2, none⟩ u3) := by
  have ht : Turns (fun k => k = G) w ((((w.drewN q).setCell ⟨G, k * 3, none⟩ u1).setCell ⟨G, k * 3 + 1, none⟩ u2).setCell ⟨G, k * 3 + 2, none⟩ u3) :=
    (((Turns.of_below (S := fun k => k = G) (below_drewN' (Below.refl _ w) q)).setCell (p := ⟨G, k * 3, none⟩) (fun _ => rfl) u1).setCell (p := ⟨G, k * 3 + 1, none⟩) (fun _ => rfl) u2).setCell (p := ⟨G, k * 3 + 2, none⟩) (fun _ => rfl) u3
  refine ⟨k + 1, ((xs.set (k * 3) u1).set (k * 3 + 1) u2).set (k * 3 + 2) u3, by omega, by simp, ((((owns_drewN hown q).stored _ u1).1.stored _ u2).1.stored _ u3).1, fun j hj => ?_, htwo.keep ht (fun k _ e => by rw [e]; exact hF), hbel.trans (ht.to_below hbel.size (fun k e => by rw [e]; exact Nat.le_trans hB (hown.lt G rfl).1))⟩
  rw [List.getElem?_set_ne (by omega), List.getElem?_set_ne (by omega), List.getElem?_set_ne (by omega)]
  exact hxs j (by omega)
theorem RowR.spoil {F : Nat → Prop} {t p : Nat} {rs : List Row} {n b G c k : Nat} {w0 w : World} {xs : List Value} (hown : w.ownsRow b 39 2 (.slice (some ⟨G, 0, none⟩) n c) n xs) (htwo : Two F t p rs rs w) (hbel : Below w0.heap.size w0 w)
    (hF : F G) (hB : w0.heap.size ≤ b) (hk : k < n) (u1 : Value) :
    RowR F t p rs n b (.slice (some ⟨G, 0, none⟩) n c) w0 (n - (k + 1)) (.int .i64 ((k : Int) + 1)) (w.setCell ⟨G, k * 2 + 1, none⟩ u1) := by
  have ht : Turns (fun k => k = G) w (w.setCell ⟨G, k * 2 + 1, none⟩ u1) := (Turns.refl (fun k => k = G) w).setCell (p := ⟨G, k * 2 + 1, none⟩) (fun _ => rfl) u1
  exact ⟨k + 1, xs.set (k * 2 + 1) u1, by omega, by simp, (hown.stored _ u1).1, htwo.keep ht (fun k _ e => by rw [e]; exact hF), hbel.trans (ht.to_below hbel.size (fun k e => by rw [e]; exact Nat.le_trans hB (hown.lt G rfl).1))⟩

set_option maxRecDepth 100000 in
set_option maxHeartbeats 8000000 in
theorem does_walk (A : Option Addr) (len cap : Nat) (ls : List (List Chg)) (sd : Int) (w : World) (hb : Bts w A len cap ls) (hk : ∀ l ∈ ls, ∀ o ∈ l, o.k.size ≤ reachBytes) (hz : ∀ l ∈ ls, l.length * 40 ≤ reachBytes) :
    Calls Try.prog 3 #[.int .i64 sd, .slice A len cap] w fun e w' => e = .returned (.bool true) ∧ Below w.heap.size w w' := by
  obtain ⟨i0, hi0, hz0, hz1, hz2⟩ := info_parts op_info
  have HI := Lib.hid (And.intro hi0 (And.intro hz0 (And.intro hz1 hz2)))
  have HB := Lib.hid (And.intro hb (And.intro hk hz))
  obtain ⟨n, hn, hn1, hn2⟩ : ∃ n, n = min len 30 ∧ n ≤ len ∧ n ≤ 30 := ⟨_, rfl, Nat.min_le_left _ _, Nat.min_le_right _ _⟩
  have HN := Lib.hid hn
  clear hb hk hn hz hi0 hz0 hz1 hz2
  go_enter Try.func3, Try.ntmps3
  go_wp2_with fail
  refine (New_at sd w).mono ?_
  rintro e w1 ⟨t, rfl, h1, hb1⟩
  have H1 := Lib.hid (And.intro h1 hb1)
  clear h1 hb1
  go_wp2_with fail
  refine (New_ref sd w1).mono ?_
  rintro e w2 ⟨rfl, h2⟩
  have H2 := Lib.hid (Two.new H1.out.1 H1.out.2 h2)
  clear h2 H1
  generalize w1.heap.size = p at *
  go_wp2_with fail
  go_loopg [7] n (fun cnt s w1 => DoesRel t p ls w n cnt s w1)
  case atStart => exact ⟨0, by omega, rfl, H2.out⟩
  case round =>
    clear H2
    obtain ⟨k, hkn, rfl, htwo, hbel⟩ := hrel
    have HK := Lib.hid hkn
    have HT := Lib.hid (And.intro htwo hbel)
    have hlen := tRows_len ls k
    by_cases hlt : k < n
    · obtain ⟨l, hq⟩ : ∃ l, ls[k]? = some l := ⟨_, List.getElem?_eq_getElem (by rw [HB.out.1.hlen]; omega)⟩
      obtain ⟨g, o, A', n', c', rfl, hcell, hops⟩ := HB.out.1.cell k l hq
      have hcw : ∀ w', Below w.heap.size w w' → w'.cell? ⟨g, o + k, none⟩ = some (.slice A' n' c') := fun w' hb => (hb.cell (p := ⟨g, _, none⟩) (World.block_lt_of_cell? w _ hcell)).trans hcell
      have b1 : (k : Int) < (len : Int) := by omega
      have b2 : (0 : Int) ≤ (k : Int) := by omega
      have b3 : (k : Int) < 30 := by omega
      have x0 := hcw wr hbel
      have hl9 : (tRows ls k).length ≤ 900000 := by omega
      have hts := tRows_succ hq
      have hll := HB.out.2.2 l (List.mem_of_getElem? hq)
      have HO := Lib.hid (And.intro hops hcw)
      have HBZ := Lib.hid (show w.heap.size ≤ wr.heap.size from hbel.size)
      have hro := tRows_all (Q := fun x => x.k.size ≤ reachBytes) (fun l hl o ho _ => HB.out.2.1 l hl o ho) (k + 1)
      have hln := tRows_len ls (k + 1)
      rw [hts] at hro hln
      have HRO := Lib.hid (And.intro hro (show (appT l (tRows ls k)).length ≤ 1000000 by omega))
      have HNX : Hid (∀ w3, Two (fun k => k < w.heap.size) t p (appT l (tRows ls k)) (appT l (tRows ls k)) w3 → Below w.heap.size w w3 → DoesRel t p ls w n (n - (k + 1)) (.int .i64 ((k : Int) + 1)) w3) := fun w3 h3 h4 =>
        ⟨k + 1, by omega, by simp, by rw [hts]; exact h3, h4⟩
      have t1 : (chkO l != chkO l) = false := by simp
      have hll2 : n' * 40 ≤ 140737488351232 := by rw [← hops.hlen]; exact hll
      generalize tRows ls k = rs at *
      generalize hrs' : appT l rs = rs' at *
      have HRS := Lib.hid hrs'
      generalize hc : chkO l = c at *
      have HCC := Lib.hid hc
      clear htwo hbel hkn hlen hq hcell hops hcw hts hc hro hln hrs' hll
      go_wp2_with (at_builtin; refine wpList_append_src rfl (.const (.slice none 0 0)) (.tmp 29) 27 rfl wr.heap.size 32 i0 _ 3 40 Try.underlying27 HI.out.1 HI.out.2.1 HI.out.2.2.1 HI.out.2.2.2 rfl (by decide) _ 0 [] rfl (World.ownsRow_nil _ _ _ _) _ n' _ (flat opC l) rfl ?h1 ?h2 ?h3 ?h4 ?h5 ?h6 ?h7 ?_)
      case h1 => rw [flat_length opC_len, HO.out.1.hlen]
      case h2 => intro h; have h1 := HO.out.1.nil h; have := HO.out.1.hcap; omega
      case h3 => exact (HO.out.1.below HT.out.2).src
      case h4 => exact flat_one opC_one _
      case h5 => unfold maxLen; omega
      case h6 => omega
      case h7 => exact Nat.le_refl _
      intro v1 w1 hown1 hg1
      have hb1 : Below wr.heap.size wr w1 := (Below.refl _ _).grown hg1 (Nat.le_refl _) (fun k hk => by cases hk)
      obtain ⟨Ai, ci, rfl, hin, hinF⟩ := Ops.of_owns hown1 HO.out.1.hlen
      have H1 := Lib.hid (And.intro (HT.out.1.more hb1) (And.intro (HT.out.2.trans (hb1.mono HBZ.out)) hown1))
      have HIN := Lib.hid (And.intro hin (show ∀ g o, Ai = some ⟨g, o, none⟩ → l ≠ [] → grew (fun k => k < w.heap.size) wr.heap.size w1.heap.size g from fun g o e _ => .inr (hinF g o e)))
      have HFA := Lib.hid (show ∀ g o, A' = some ⟨g, o, none⟩ → l ≠ [] → grew (fun k => k < w.heap.size) wr.heap.size w1.heap.size g from fun g o e hl => .inl (HO.out.1.f g o e hl))
      obtain ⟨F, hF⟩ : ∃ F, F = grew (fun k => k < w.heap.size) wr.heap.size w1.heap.size := ⟨_, rfl⟩
      rw [← hF] at H1 HIN HFA
      have HF0 := Lib.hid (show ∀ k, k < w.heap.size → F k from fun k hk => by rw [hF]; exact .inl hk)
      have HFR := Lib.hid (show ∀ k, wr.heap.size ≤ k → k < w1.heap.size → F k from fun k h1 h2 => by rw [hF]; exact .inr ⟨h1, h2⟩)
      have HBW := Lib.hid (show ∀ W W', w.heap.size ≤ W.heap.size → Turns (fun k => ¬ F k) W W' → Below w.heap.size W W' from fun W W' hs ht => ht.to_below hs (fun k hk => Nat.le_of_not_lt (fun h => hk (HF0.out k h))))
      have x1 := HO.out.2 w1 H1.out.2.1
      have t2 : ((rs'.length : Int) != (rs'.length : Int)) = false := by simp
      have HNB := Lib.hid (show (n' : Int) ≤ 4000000000000 by omega)
      clear hown1 hg1 hb1 hin hinF hF x0 hll2
      go_wp2_with fail
      go_region_held3 (fun w' => w'.cell? ⟨g, o + k, none⟩ = some (.slice A' n' c')) (first | assumption | go_keep)
        (first
         | (go_at_call 14
            refine ((H1.out.1.below ((Below.refl _ _).drew)).apply_t (HIN.out.1.below ((Below.refl _ _).drew)) HIN.out.2 hl9).mono ?_
            rw [HCC.out, HRS.out]
            rintro e w2 ⟨rfl, ht2, hf2⟩
            have hf2' : Turns (fun k => ¬ F k) w1 w2 := (Turns.of_below ((Below.refl w1.heap.size w1).drew)).trans hf2 (fun _ _ h => h)
            have hb2 := H1.out.2.1.trans (HBW.out w1 w2 H1.out.2.1.size hf2')
            have c2 := HO.out.2 _ hb2
            have h2 := Lib.hid (And.intro ht2 (And.intro hb2 hf2'))
            clear ht2 hf2 hb2 hf2')
         | (go_at_call 15
            refine (h2.out.1.apply_r (HO.out.1.below h2.out.2.1) HFA.out hl9).mono ?_
            rw [HCC.out, HRS.out]
            rintro e w3 ⟨rfl, ht3, hf3⟩
            have hb3 := h2.out.2.1.trans (HBW.out w2 w3 h2.out.2.1.size hf3)
            have c3 := HO.out.2 _ hb3
            have h3 := Lib.hid (And.intro ht3 (And.intro hb3 (h2.out.2.2.trans hf3 (fun _ _ h => h))))
            clear ht3 hf3 hb3)
         | (go_at_call 16
            obtain ⟨P, hP⟩ := h3.out.1.tab
            refine (Len_tb hP.tab).mono ?_
            rintro e w4 ⟨rfl, rfl⟩
            clear hP)
         | (go_at_call 17
            obtain ⟨R, v, hR⟩ := h3.out.1.ref
            refine (Len_ref R p v rs' _ hR).mono ?_
            rintro e w4 ⟨rfl, rfl⟩
            clear hR))
      have H4 : Hid (InR F t p rs' l n' wr.heap.size (.slice Ai n' ci) w n' (.int .i64 0) w3) :=
        ⟨0, flat opC l, by omega, rfl, owns_keep H1.out.2.2 h3.out.2.2 (fun g hg hnf => hnf (HFR.out g (H1.out.2.2.lt g hg).1 (H1.out.2.2.lt g hg).2)), fun _ _ => rfl, h3.out.1, h3.out.2.1⟩
      have HFB := Lib.hid (show ∀ g, (Value.slice Ai n' ci).ownBlock = some g → F g from fun g hg => HFR.out g (H1.out.2.2.lt g hg).1 (H1.out.2.2.lt g hg).2)
      clear c2 c3 h2 h3 x1 t1 hl9 HT HCC HRS H1 HIN HFR
      generalize wr.heap.size = bs at *
      go_wp2_with fail
      go_loopg [9] n' (fun cnt s w1 => InR F t p rs' l n' bs (.slice Ai n' ci) w cnt s w1)
      case atStart => exact H4.out
      case round =>
        obtain ⟨k2, xs, hk2, rfl, hown, hxs, htwo, hbel⟩ := hrel
        have HK2 := Lib.hid hk2
        by_cases hlt2 : k2 < n'
        · obtain ⟨x, hx⟩ : ∃ x, l[k2]? = some x := ⟨_, List.getElem?_eq_getElem (by rw [HO.out.1.hlen]; exact hlt2)⟩
          obtain ⟨g', o', rfl, y0, y1, y2⟩ := (HO.out.1.below hbel).cell k2 x hx
          have x1 := HO.out.2 wr hbel
          obtain ⟨G, rfl⟩ : ∃ G, Ai = some ⟨G, 0, none⟩ := by
            rcases owns_form hown with ⟨_, h0, _⟩ | ⟨G, cap, hv, _, _⟩
            · omega
            · injection hv with h1 _ _
              exact ⟨G, h1⟩
          have hcc : ∀ i u, i < 3 → (opC x)[i]? = some u → wr.cell? ⟨G, k2 * 3 + i, none⟩ = some u := fun i u hi hu => by
            have := hown.cells (g := G) rfl (k2 * 3 + i) u (by rw [hxs _ (Nat.le_add_right _ _), flat_get opC_len hx hi]; exact hu)
            rw [addr_add, Nat.zero_add] at this
            exact this
          have v0 : wr.cell? ⟨G, k2 * 3, none⟩ = some (.string x.k) := hcc 0 _ (by omega) rfl
          have v1 := hcc 1 _ (by omega) rfl
          have v2 := hcc 2 _ (by omega) rfl
          have f0 : wr.frozen? ⟨G, k2 * 3, none⟩ = false := hown.frozenAt _
          have f1 : wr.frozen? ⟨G, k2 * 3 + 1, none⟩ = false := hown.frozenAt _
          have f2 : wr.frozen? ⟨G, k2 * 3 + 2, none⟩ = false := hown.frozenAt _
          have d1 : (k2 : Int) < (n' : Int) := by omega
          have d2 : (0 : Int) ≤ (k2 : Int) := by omega
          have HOX := Lib.hid (And.intro hown (And.intro hxs (And.intro htwo hbel)))
          obtain ⟨xk, xv, xd⟩ := x
          simp only at y0 y1 y2 v0 v1 v2
          clear hown hxs htwo hbel hx hcc hk2 H4
          go_wp2_with fail
          go_quiet (fail)
          have hwr : IntKind.i64.wrap ((k2 : Int) + 1) = (k2 : Int) + 1 := IntWalk.i64_in _ (by have := HNB.out; omega)
          go_wp2_with fail
          go_roundg (n' - (k2 + 1))
          case measure => have := HK2.out; omega
          case rel => exact InR.spoil HOX.out.1 HOX.out.2.1 HOX.out.2.2.1 HOX.out.2.2.2 (HFB.out G rfl) HBZ.out hlt2 nq _ _ _
        · have ek : decide ((k2 : Int) < (n' : Int)) = false := by simp; omega
          have ek2 : decide (k2 < n') = false := by simp; omega
          have H5 := Lib.hid (And.intro htwo hbel)
          clear hown hxs htwo hbel hk2 HK2 H4 HNB HFA
          go_wp2_with fail
          obtain ⟨P, hP⟩ := H5.out.1.tab
          refine (Rows_tb P t rs' wr hP.tab HRO.out.1 HRO.out.2).mono ?_
          rintro e w5 ⟨v5, rfl, hown, hb⟩
          obtain ⟨A5, c5, hv5⟩ : ∃ A c, v5 = .slice A rs'.length c := by obtain ⟨A, c, h, _⟩ := Rws.of_owns hown; exact ⟨A, c, h⟩
          subst hv5
          have H6 := Lib.hid (And.intro (H5.out.1.more hb) (H5.out.2.trans (hb.mono H5.out.2.size)))
          have H6B := Lib.hid (show w.heap.size ≤ wr.heap.size from H5.out.2.size)
          have HF6 := Lib.hid (show ∀ g, (Value.slice A5 rs'.length c5).ownBlock = some g → grew F wr.heap.size w5.heap.size g from fun g hg => .inr (hown.lt g hg))
          have HO6 := Lib.hid hown
          generalize wr.heap.size = b5 at *
          obtain ⟨F6, hF6⟩ : ∃ F6, F6 = grew F b5 w5.heap.size := ⟨_, rfl⟩
          rw [← hF6] at H6 HF6
          have HF60 := Lib.hid (show ∀ k, k < w.heap.size → F6 k from fun k hk => by rw [hF6]; exact .inl (HF0.out k hk))
          obtain ⟨R6, v6, hR⟩ := H6.out.1.ref
          have p0 : w5.cell? ⟨p, 0, none⟩ = some v6 := hR.hdr.cell 0
          have HRW := Lib.hid (Rws.of_owns hR.own)
          clear hP hown hb hF6 hR H5
          go_wp2_with fail
          refine (Same_rows _ v6 rs' w5 (Rws.of_owns HO6.out) HRW.out (by have := HRO.out.2; omega)).mono ?_
          rintro e w6 ⟨rfl, q, rfl⟩
          have H7 : Hid (RowR F6 t p rs' rs'.length b5 (.slice A5 rs'.length c5) w rs'.length (.int .i64 0) (w5.drewN q)) :=
            ⟨0, _, by omega, rfl, owns_drewN HO6.out q, H6.out.1.below (below_drewN' (Below.refl _ _) q), below_drewN' H6.out.2 q⟩
          clear p0 HRW HO6
          generalize w5.drewN q = w7 at *
          have HLR := Lib.hid (show (rs'.length : Int) ≤ 1000000 by have := HRO.out.2; omega)
          go_wp2_with fail
          go_loopg [11] rs'.length (fun cnt s w1 => RowR F6 t p rs' rs'.length b5 (.slice A5 rs'.length c5) w cnt s w1)
          case atStart => exact H7.out
          case round =>
            obtain ⟨k3, ys, hk3, rfl, hown, htwo, hbel⟩ := hrel
            have HK3 := Lib.hid hk3
            by_cases hlt3 : k3 < rs'.length
            · obtain ⟨G5, rfl⟩ : ∃ G, A5 = some ⟨G, 0, none⟩ := by
                rcases owns_form hown with ⟨_, h0, _⟩ | ⟨G, cap, hv, _, _⟩
                · omega
                · injection hv with h1 _ _
                  exact ⟨G, h1⟩
              have f1 : wr.frozen? ⟨G5, k3 * 2 + 1, none⟩ = false := hown.frozenAt _
              obtain ⟨u0, hu0⟩ : ∃ u, ys[k3 * 2 + 1]? = some u := ⟨_, List.getElem?_eq_getElem (by rw [hown.1]; omega)⟩
              have v1 : wr.cell? ⟨G5, k3 * 2 + 1, none⟩ = some u0 := by
                have := hown.cells (g := G5) rfl (k3 * 2 + 1) u0 hu0
                rw [addr_add, Nat.zero_add] at this
                exact this
              have d1 : (k3 : Int) < (rs'.length : Int) := by omega
              have d2 : (0 : Int) ≤ (k3 : Int) := by omega
              have hwr : IntKind.i64.wrap ((k3 : Int) + 1) = (k3 : Int) + 1 := IntWalk.i64_in _ (by have := HLR.out; omega)
              have HOX := Lib.hid (And.intro hown (And.intro htwo hbel))
              clear hown htwo hbel hk3 hu0 H7
              go_wp2_with fail
              go_roundg (rs'.length - (k3 + 1))
              case measure => have := HK3.out; omega
              case rel => exact RowR.spoil HOX.out.1 HOX.out.2.1 HOX.out.2.2 (HF6.out G5 rfl) H6B.out hlt3 _
            · have ek3 : decide ((k3 : Int) < (rs'.length : Int)) = false := by simp; omega
              have ek4 : decide (k3 < rs'.length) = false := by simp; omega
              have HF := Lib.hid (HNX.out wr (htwo.less HF60.out) hbel)
              clear hown htwo hbel hk3 HK3 H7 HNX
              go_wp2_with fail
              go_roundg (n - (k + 1))
              case measure => have := HK.out; omega
              case rel => exact HF.out
    · obtain rfl : k = n := by omega
      have hend : Hid (∃ rs, Two (fun k => k < w.heap.size) t p rs rs wr ∧ (∀ x ∈ rs, x.k.size ≤ reachBytes) ∧ rs.length ≤ 1000000 ∧ Below w.heap.size w wr) :=
        ⟨_, htwo, tRows_all (Q := fun x => x.k.size ≤ reachBytes) (fun l hl o ho _ => HB.out.2.1 l hl o ho) k, by omega, hbel⟩
      have hcase : (¬ k < len) ∨ (k < len ∧ ¬ k < 30) := by have := HN.out; omega
      clear htwo hbel hkn hlen hlt HT HB HK HN
      obtain ⟨rs, hrs⟩ := hend.out
      have H3 := Lib.hid (And.intro hrs.1 hrs.2.2.2)
      have HR := Lib.hid (And.intro hrs.2.1 hrs.2.2.1)
      clear hrs hend
      obtain ⟨R, vR, hR⟩ := H3.out.1.ref
      have p0 : wr.cell? ⟨p, 0, none⟩ = some vR := hR.hdr.cell 0
      have HRW := Lib.hid (Rws.of_owns hR.own)
      have hpl := hR.hdr.lt
      clear hR
      rcases hcase with hc1 | ⟨hc1, hc2⟩
      all_goals
        first
        | (have ek : decide ((k : Int) < (len : Int)) = false := by simp; omega)
        | (have ek : decide ((k : Int) < (len : Int)) = true := by simp; omega)
        first
        | (have ek2 : decide (k < len) = false := by simp; omega)
        | (have ek2 : decide (k < len) = true := by simp; omega)
        try (have ek3 : decide ((k : Int) < 30) = false := by simp; omega)
        try (have ek4 : decide (k < 30) = false := by simp; omega)
        go_wp2_with fail
        go_region_held3 (fun w' => w'.cell? ⟨p, 0, none⟩ = some vR) (first | assumption | go_keep)
          (first
           | (go_at_call 18
              obtain ⟨P, hP⟩ := H3.out.1.tab
              refine (Rows_tb P t rs _ (hP.tab.below ((Below.refl _ _).drew)) HR.out.1 HR.out.2).mono ?_
              rintro e w5 ⟨v5, rfl, hown, hb⟩
              have c5 := (hb.cell (p := ⟨p, 0, none⟩) hpl).trans p0
              have h5 := Lib.hid (And.intro (Rws.of_owns hown) (And.intro ((HRW.out.below ((Below.refl _ _).drew)).below hb) ((H3.out.2.trans ((Below.refl _ _).drew)).trans (hb.mono H3.out.2.size))))
              clear hown hb hP)
           | (go_at_call 19
              refine (Same_rows v5 vR rs w5 h5.out.1 h5.out.2.1 (by have := HR.out.2; omega)).mono ?_
              rintro e w6 ⟨rfl, q, rfl⟩
              have c6 : (w5.drewN q).cell? ⟨p, 0, none⟩ = some vR := c5
              have h6 := Lib.hid (below_drewN' h5.out.2.2 q))
           | (go_at_call 20
              refine (works_any _).mono ?_
              rintro e w7 ⟨rfl, hb⟩
              have h7 := Lib.hid (h6.out.trans (hb.mono h6.out.size))
              have c7 := (hb.cell (p := ⟨p, 0, none⟩) (World.block_lt_of_cell? _ _ c6)).trans c6
              clear hb))
        go_wp2_with fail
        go_ret
        exact ⟨rfl, h7.out⟩

end Tb
end Go.Proofs.Ytoglklldclgcbaa
