/-
  Walk: the reference's Apply.
-/
import Derived.Test.YtoglklldclgcbaaTbOneWalk
namespace Go.Proofs.Ytoglklldclgcbaa
open Go.RowKit Sk
namespace Tb

/-- a set of blocks, and what was made since -/
def grew (R : Nat → Prop) (a b : Nat) (k : Nat) : Prop := R k ∨ (a ≤ k ∧ k < b)
theorem grew_grew {R : Nat → Prop} {a b c k : Nat} (hab : a ≤ b) (hbc : b ≤ c) (h : grew (grew R a b) b c k) : grew R a c k := by
  rcases h with (h | h) | h
  · exact .inl h
  · exact .inr (by omega)
  · exact .inr (by omega)
theorem RefIs.widen {R Q : Nat → Prop} {w : World} {p : Nat} {v : Value} {rows : List Row} (h : RefIs R w p v rows) (hq : ∀ k, R k → k < w.heap.size → Q k) : RefIs Q w p v rows :=
  ⟨h.hdr, h.own, hq _ h.rp h.hdr.lt, fun g hg => hq _ (h.rv g hg) (h.own.lt g hg).2⟩
theorem RefIs.below {R : Nat → Prop} {w w' : World} {p : Nat} {v : Value} {rows : List Row} (h : RefIs R w p v rows) (hb : Below w.heap.size w w') : RefIs R w' p v rows :=
  h.keep (S := fun _ => False) (Turns.of_below hb) fun _ _ h => h

theorem one_done {R : Nat → Prop} {p : Nat} {v : Value} {rows : List Row} {o : Chg} {w w' : World} (h : RefIs R w p v rows) (hp : OnePost p rows o w w') :
    ∃ v', RefIs (grew R w.heap.size w'.heap.size) w' p v' (oneT rows o) ∧ Turns (fun k => k = p) w w' := by
  obtain ⟨v', w3, hown, hb, rfl⟩ := hp
  have hpl := h.hdr.lt
  have ht : Turns (fun k => k = p) w (w3.setCell ⟨p, 0, none⟩ v') := (Turns.of_below (S := fun k => k = p) hb).setCell (p := ⟨p, 0, none⟩) (fun _ => rfl) v'
  have hown' : (w3.setCell ⟨p, 0, none⟩ v').ownsRow w.heap.size 39 2 v' (oneT rows o).length (flat rcR (oneT rows o)) := ownsRow_setCell_below hown (a := ⟨p, 0, none⟩) hpl v'
  refine ⟨v', ⟨?_, owns_mono hown' (Nat.zero_le _), .inl h.rp, fun g hg => .inr (hown'.lt g hg)⟩, ht⟩
  have := (h.hdr.below hb hpl).set_ 0 v'
  simpa using this

theorem one_ref (R : Nat → Prop) (p : Nat) (v : Value) (rows : List Row) (o : Chg) (w : World) (h : RefIs R w p v rows) (hlen : rows.length ≤ 1000000) :
    Calls Try.prog 39 #[TP p, .agg #[.string o.k, .string o.v, .bool o.d]] w fun e w' => e = .returned (.tuple #[]) ∧ ∃ v', RefIs (grew R w.heap.size w'.heap.size) w' p v' (oneT rows o) ∧ Turns (fun k => k = p) w w' := by
  suffices hs : Calls Try.prog 39 #[TP p, .agg #[.string o.k, .string o.v, .bool o.d]] w fun e w' => e = .returned (.tuple #[]) ∧ OnePost p rows o w w' from
    hs.mono fun _ _ ⟨he, hp⟩ => ⟨he, one_done h hp⟩
  obtain ⟨ck, cv, cd⟩ := o
  rcases owns_form h.own with ⟨rfl, h0, _⟩ | ⟨g, c, rfl, _, hcap⟩
  · obtain rfl : rows = [] := List.eq_nil_of_length_eq_zero h0
    cases cd with
    | true => exact one_N_true R p ck cv w h
    | false => exact one_N_false R p ck cv w h
  · have hll := lohi_len ck rows
    have hat := hi_at (key := ck) (rows := rows)
    cases hz : hi Row.k ck rows with
    | nil =>
      rw [hz] at hll
      have h1 : (lo Row.k ck rows).length = rows.length := by simpa using hll
      have h2 : (lo Row.k ck rows).length = restN ck rows := by unfold restN; rw [hz]
      cases cd with
      | true => exact one_C_true R p g c rows ck cv w h hlen hcap _ _ rfl rfl h1 h2
      | false => exact one_C_false R p g c rows ck cv w h hlen hcap _ _ rfl rfl h1 h2
    | cons z r =>
      rw [hz] at hat
      have hz2 : rows[(lo Row.k ck rows).length]? = some z := hat
      cases e1 : (z.k.toList == ck.toList) with
      | true =>
        have h2 : restN ck rows = (lo Row.k ck rows).length + 1 := by unfold restN; rw [hz]; exact if_pos e1
        cases cd with
        | true => exact one_A_true R p g c rows ck cv w h hlen hcap _ _ rfl rfl z hz2 e1 h2
        | false => exact one_A_false R p g c rows ck cv w h hlen hcap _ _ rfl rfl z hz2 e1 h2
      | false =>
        have h2 : (lo Row.k ck rows).length = restN ck rows := by unfold restN; rw [hz]; exact (if_neg (by rw [e1]; simp)).symm
        cases cd with
        | true => exact one_B_true R p g c rows ck cv w h hlen hcap _ _ rfl rfl z hz2 e1 h2
        | false => exact one_B_false R p g c rows ck cv w h hlen hcap _ _ rfl rfl z hz2 e1 h2

def RApR (R : Nat → Prop) (p : Nat) (rows : List Row) (l : List Chg) (w : World) (cnt : Nat) (s : Value) (w1 : World) : Prop :=
  ∃ k v', k + cnt = l.length ∧ s = .int .i64 (k : Nat) ∧ RefIs (grew R w.heap.size w1.heap.size) w1 p v' (runT (l.take k) rows) ∧ Turns (fun k => k = p) w w1

set_option maxRecDepth 100000 in
set_option maxHeartbeats 1000000 in
theorem Apply_ref (R : Nat → Prop) (p : Nat) (v : Value) (rows : List Row) (A : Option Addr) (len cap : Nat) (l : List Chg) (w : World) (h : RefIs R w p v rows) (ho : Ops w A len cap l) (hA : ∀ g o, A = some ⟨g, o, none⟩ → l ≠ [] → g ≠ p) (hr : rows.length ≤ 900000) :
    Calls Try.prog 15 #[TP p, .slice A len cap] w fun e w' => e = .returned (.int .i64 (chkO l)) ∧ ∃ v', RefIs (grew R w.heap.size w'.heap.size) w' p v' (appT l rows) ∧ Turns (fun k => k = p) w w' := by
  have HC := Lib.hid (Check_ref A len cap l w ho)
  have H0 : Hid (RefIs (grew R w.heap.size w.heap.size) w p v rows) := h.widen (fun k hk _ => .inl hk)
  obtain rfl := ho.hlen
  by_cases hc : chkO l = 0
  · have hap : appT l rows = runT l rows := by unfold appT; rw [if_pos hc]
    have hl8 : l.length ≤ 128 := by
      unfold chkO at hc
      split at hc
      · cases hc
      · omega
    rw [hc] at HC
    rw [hc, hap]
    have HO := Lib.hid (And.intro ho hA)
    obtain ⟨n, hn⟩ : ∃ n, n = l.length := ⟨_, rfl⟩
    have HLN := Lib.hid hn
    rw [← hn] at HC hl8 ⊢
    clear h ho hA hc hap hn
    go_enter Try.func15, Try.ntmps15
    go_wp2_with fail
    refine HC.out.mono ?_
    rintro e w' ⟨rfl, rfl⟩
    go_wp2_with fail
    go_loopg [6] n (fun cnt s w1 => RApR R p rows l w cnt s w1)
    case atStart => exact ⟨0, v, by have := HLN.out; omega, rfl, H0.out, Turns.refl _ _⟩
    case round =>
      obtain ⟨k, v', hk, rfl, href, hturn⟩ := hrel
      rw [← HLN.out] at hk
      have HK := Lib.hid hk
      have HT := Lib.hid (And.intro href hturn)
      by_cases hlt : k < n
      · obtain ⟨o, hq⟩ : ∃ o, l[k]? = some o := ⟨_, List.getElem?_eq_getElem (show k < l.length by rw [← HLN.out]; exact hlt)⟩
        obtain ⟨g, f, rfl, x0, x1, x2⟩ := (HO.out.1.turns hturn HO.out.2).cell k o hq
        have b1 : (k : Int) < (n : Int) := by omega
        have b2 : (0 : Int) ≤ (k : Int) := by omega
        have hrt := runT_take (rows := rows) hq
        have hlen := runT_len (l.take k) rows
        rw [List.length_take] at hlen
        have hlen9 : (runT (l.take k) rows).length ≤ 1000000 := by omega
        have HNX : Hid (∀ w2, (∃ v2, RefIs (grew (grew R w.heap.size wr.heap.size) wr.heap.size w2.heap.size) w2 p v2 (oneT (runT (l.take k) rows) o) ∧ Turns (fun k => k = p) wr w2) → RApR R p rows l w (n - (k + 1)) (.int .i64 ((k : Int) + 1)) w2) := fun w2 ⟨v2, h1, h2⟩ =>
          ⟨k + 1, v2, by rw [← HLN.out]; omega, by simp, by rw [hrt]; exact h1.widen (fun k hk _ => grew_grew HT.out.2.size h2.size hk), HT.out.2.trans h2 (fun _ _ h => h)⟩
        have HONE := Lib.hid (one_ref _ p v' _ o wr href hlen9)
        generalize runT (l.take k) rows = rs at *
        obtain ⟨ck, cv, cd⟩ := o
        simp only at x0 x1 x2
        clear href hturn hk hq hrt hlen
        go_wp2_with fail
        refine HONE.out.mono ?_
        rintro e w2 ⟨rfl, h2⟩
        have HF := Lib.hid (HNX.out _ h2)
        clear h2 x0 x1 x2
        go_wp2_with fail
        go_roundg (n - (k + 1))
        case measure => have := HK.out; omega
        case rel => exact HF.out
      · have ek : decide ((k : Int) < (n : Int)) = false := by simp; omega
        have ek2 : decide (k < n) = false := by simp; omega
        have HF : Hid (∃ v', RefIs (grew R w.heap.size wr.heap.size) wr p v' (runT l rows) ∧ Turns (fun k => k = p) w wr) := by
          have e : l.take k = l := List.take_of_length_le (by rw [← HLN.out]; omega)
          rw [e] at href
          exact ⟨_, href, hturn⟩
        clear href hturn hk hlt
        go_wp2
        go_ret
        exact ⟨rfl, HF.out⟩
  · have hap : appT l rows = rows := by unfold appT; rw [if_neg hc]
    rw [hap]
    have hcase : chkO l = 5 ∨ chkO l = 2 := by
      unfold chkO at hc ⊢
      split
      · exact .inl rfl
      · split
        · exact .inr rfl
        · rename_i h1 h2; rw [if_neg h1, if_neg h2] at hc; exact absurd rfl hc
    rcases hcase with hc5 | hc5
    all_goals
      rw [hc5] at HC ⊢
      clear h ho hA hc hap hc5
      go_enter Try.func15, Try.ntmps15
      go_wp2_with fail
      refine HC.out.mono ?_
      rintro e w' ⟨rfl, rfl⟩
      go_wp2
      go_ret
      exact ⟨rfl, _, H0.out, Turns.refl _ _⟩

end Tb
end Go.Proofs.Ytoglklldclgcbaa
