/-
  Walk: 'Same' of two slices of texts (scriptoriumref09).
-/
import Derived.Test.YtphfedkfbehigaaRefAt
import Derived.Deep.QuietTactic
import Derived.BigQuiet
namespace Go.Proofs.Ytphfedkfbehigaa
open Go.RowKit Sk
namespace Sm

/-- a slice of texts lies in memory -/
def Strs (w : World) (v : Value) (l : List ByteArray) : Prop :=
  ∃ A c, v = .slice A l.length c ∧ ∀ k x, l[k]? = some x → ∃ g o, A = some ⟨g, o, none⟩ ∧ w.cell? ⟨g, o + k, none⟩ = some (.string x)

theorem Strs.of_owns {w : World} {B : Nat} {v : Value} {n : Nat} {l : List ByteArray} (h : w.ownsRow B 9 1 v n (l.map Value.string)) : Strs w v l := by
  have hn : l.length = n := by have := h.1; simpa using this
  rcases owns_form h with ⟨hv, h0, _⟩ | ⟨g, cap, hv, _, _⟩
  · refine ⟨none, 0, ?_, fun k x hx => ?_⟩
    · rw [hv, hn, h0]
    · have := (List.getElem?_eq_some_iff.1 hx).1; omega
  · subst hv
    refine ⟨some ⟨g, 0, none⟩, cap, by rw [hn], fun k x hx => ⟨g, 0, rfl, ?_⟩⟩
    have hk := (List.getElem?_eq_some_iff.1 hx).1
    rw [Nat.zero_add, h.cellAt k (by omega), List.getElem?_map, hx]
    rfl

theorem Strs.keep {w w' : World} {v : Value} {l : List ByteArray} (h : Strs w v l) (hk : ∀ g o, v.ownBlock = some g → w'.cell? ⟨g, o, none⟩ = w.cell? ⟨g, o, none⟩) : Strs w' v l := by
  obtain ⟨A, c, rfl, hc⟩ := h
  refine ⟨A, c, rfl, fun k x hx => ?_⟩
  obtain ⟨g, o, rfl, h1⟩ := hc k x hx
  exact ⟨g, o, rfl, (hk g (o + k) rfl).trans h1⟩

def SameRel (w : World) (n cnt : Nat) (l r : List ByteArray) (s : Value) (w1 : World) : Prop :=
  ∃ k q, k + cnt = n ∧ s = .int .i64 (k : Nat) ∧ (∀ j, j < k → l[j]? = r[j]?) ∧ w1 = w.drewN q

set_option maxHeartbeats 400000 in
theorem Same_any (a b : Value) (l r : List ByteArray) (w : World) (ha : Strs w a l) (hb : Strs w b r) (hlen : l.length ≤ 1000000000) :
    Calls Try.prog 25 #[a, b] w fun e w' => e = .returned (.bool (decide (l = r))) ∧ ∃ q, w' = w.drewN q := by
  obtain ⟨A, ca, rfl, hca⟩ := ha
  obtain ⟨C, cc, rfl, hcb⟩ := hb
  by_cases hne : l.length = r.length
  · have e1 : ((l.length : Int) != (r.length : Int)) = false := by simp; omega
    have HA := Lib.hid hca
    have HB := Lib.hid hcb
    have HN := Lib.hid hne
    clear hca hcb hne
    go_enter Try.func25, Try.ntmps25
    go_wp2
    go_loopg [5] l.length (fun cnt s w1 => SameRel w l.length cnt l r s w1)
    case atStart => exact ⟨0, 0, by omega, rfl, fun j hj => by omega, rfl⟩
    case round =>
      obtain ⟨k, q, hk, rfl, hall, rfl⟩ := hrel
      by_cases hlt : k < l.length
      · have hl := List.getElem?_eq_getElem hlt
        have hr := List.getElem?_eq_getElem (l := r) (i := k) (by have := HN.out; omega)
        have hlt2 : k < r.length := by have := HN.out; omega
        obtain ⟨g1, o1, rfl, c1⟩ := HA.out k _ hl
        obtain ⟨g2, o2, rfl, c2⟩ := HB.out k _ hr
        have HK := Lib.hid hk
        have HALL := Lib.hid hall
        cases hx : (l[k].toList == r[k].toList) with
        | true =>
          have hxne : (l[k].toList != r[k].toList) = false := by rw [bne, hx]; rfl
          have heq : l[k]? = r[k]? := by rw [hl, hr, (keq_iff _ _).1 hx]
          have HEQ := Lib.hid heq
          generalize l[k] = x at *
          generalize r[k] = y at *
          clear hk hall hl hr heq
          go_wp2
          go_quiet (fail)
          go_wp2
          go_roundg (l.length - (k + 1))
          case measure => have := HK.out; omega
          case rel =>
            refine ⟨k + 1, _, by omega, by simp, fun j hj => ?_, rfl⟩
            by_cases hjk : j = k
            · subst hjk; exact HEQ.out
            · exact HALL.out j (by omega)
        | false =>
          have hxne : (l[k].toList != r[k].toList) = true := by rw [bne, hx]; rfl
          have hfin : decide (l = r) = false := by
            rw [decide_eq_false_iff_not]
            intro e
            have : l[k]? = r[k]? := by rw [e]
            rw [hl, hr] at this
            injection this with this
            rw [this] at hx
            simp at hx
          have HF := Lib.hid hfin
          generalize l[k] = x at *
          generalize r[k] = y at *
          clear hk hall hl hr hfin
          go_wp2
          go_quiet (fail)
          go_wp2
          go_ret
          exact ⟨by rw [HF.out]; rfl, _, by rw [World.drewN_drewN]⟩
      · have hfin : decide (l = r) = true := by
          rw [decide_eq_true_eq]
          apply List.ext_getElem?
          intro j
          by_cases hj : j < k
          · exact hall j hj
          · rw [List.getElem?_eq_none (by omega), List.getElem?_eq_none (by have := HN.out; omega)]
        have HF := Lib.hid hfin
        have hge : l.length ≤ k := by omega
        clear hk hall hfin
        go_wp2
        go_ret
        exact ⟨by rw [HF.out]; rfl, _, rfl⟩
  · have e1 : ((l.length : Int) != (r.length : Int)) = true := by simp; omega
    have hfin : decide (l = r) = false := by
      rw [decide_eq_false_iff_not]
      intro e
      exact hne (by rw [e])
    have HF := Lib.hid hfin
    clear hca hcb hne hfin
    go_enter Try.func25, Try.ntmps25
    go_wp2
    go_ret
    exact ⟨by rw [HF.out]; rfl, 0, rfl⟩

theorem Strs.new (w : World) (l : List ByteArray) (c : Nat) : Strs (w.alloc (.cells (l.map Value.string).toArray 9)) (.slice (some ⟨w.heap.size, 0, none⟩) l.length c) l := by
  refine ⟨some ⟨w.heap.size, 0, none⟩, c, rfl, fun k x hx => ⟨w.heap.size, 0, rfl, ?_⟩⟩
  rw [Nat.zero_add, World.cell?_alloc_new]
  simp [hx]

theorem Same_yes (a b : Value) (l : List ByteArray) (w : World) (ha : Strs w a l) (hb : Strs w b l) (hlen : l.length ≤ 1000000000) :
    Calls Try.prog 25 #[a, b] w fun e w' => e = .returned (.bool true) ∧ ∃ q, w' = w.drewN q :=
  (Same_any a b l l w ha hb hlen).mono fun _ _ ⟨he, hw⟩ => ⟨by rw [he]; simp, hw⟩

end Sm
end Go.Proofs.Ytphfedkfbehigaa
