/-
  Walk: route.New, of every plan.
-/
import Derived.Test.YtpkiiimbichooaaRtShard
import Derived.Deep.RegionLawGrows
import Derived.Deep.DrawnRows
import Derived.OwnWalk
namespace Go.Proofs.Ytpkiiimbichooaa
open Go.RowKit Sk
namespace Rt

theorem str_info : (Try.prog.info? 9).map (fun i => (i.zero, i.size, i.bytes)) = some (some (.string ⟨#[]⟩), 1, 16) := by kernel_rfl

/-- a slice of texts lies in memory -/
structure Strs (w : World) (A : Option Addr) (len cap : Nat) (l : List ByteArray) : Prop where
  hlen : l.length = len
  hcap : len ≤ cap
  nil : A = none → cap = 0
  cell : ∀ (k : Nat) (x : ByteArray), l[k]? = some x → ∃ g o, A = some ⟨g, o, none⟩ ∧ w.cell? ⟨g, o + k, none⟩ = some (.string x)
theorem Strs.lt {w : World} {A : Option Addr} {len cap : Nat} {l : List ByteArray} (h : Strs w A len cap l) (h0 : 0 < l.length) : ∃ g o, A = some ⟨g, o, none⟩ ∧ g < w.heap.size := by
  obtain ⟨g, o, hA, hc⟩ := h.cell 0 _ (List.getElem?_eq_getElem h0)
  exact ⟨g, o, hA, World.block_lt_of_cell? w _ hc⟩
theorem Strs.below {w w' : World} {A : Option Addr} {len cap : Nat} {l : List ByteArray} (h : Strs w A len cap l) (hb : Below w.heap.size w w') : Strs w' A len cap l :=
  ⟨h.hlen, h.hcap, h.nil, fun k x hx => by
    obtain ⟨g, o, hA, hc⟩ := h.cell k x hx
    exact ⟨g, o, hA, (hb.cell (p := ⟨g, o + k, none⟩) (World.block_lt_of_cell? w _ hc)).trans hc⟩⟩

/-- a block of texts begins with these -/
def Row (w : World) (g : Nat) (E : List ByteArray) : Prop := ∃ cs, Blk w g 9 cs ∧ ∀ (k : Nat) (x : ByteArray), E[k]? = some x → cs[k]? = some (Value.string x)
theorem Row.lt {w : World} {g : Nat} {E : List ByteArray} (h : Row w g E) : g < w.heap.size := by obtain ⟨cs, h, _⟩ := h; exact h.lt
theorem Row.below {w w' : World} {g : Nat} {E : List ByteArray} (h : Row w g E) (hb : Below w.heap.size w w') : Row w' g E := by
  obtain ⟨cs, h, hc⟩ := h
  exact ⟨cs, (hb.block g h.lt).trans h, hc⟩
theorem Row.cell {w : World} {g : Nat} {E : List ByteArray} (h : Row w g E) {k : Nat} {x : ByteArray} (hx : E[k]? = some x) : w.cell? ⟨g, k, none⟩ = some (.string x) := by
  obtain ⟨cs, h, hc⟩ := h
  exact (h.cell k).trans (hc k x hx)
theorem Row.of_owns {w : World} {B n : Nat} {v : Value} {E : List ByteArray} (h : w.ownsRow B 9 1 v n (E.map Value.string)) (h0 : 0 < n) :
    ∃ g cap, v = .slice (some ⟨g, 0, none⟩) n cap ∧ B ≤ g ∧ Row w g E := by
  obtain ⟨_, h⟩ := h
  rcases h with ⟨_, h⟩ | ⟨g, cap, cur, hv, hB, hg, _, _, _, ht⟩
  · omega
  · refine ⟨g, cap, hv, hB, cur, hg, fun k x hx => ?_⟩
    have h1 : (cur.toList.take (n * 1))[k]? = some (Value.string x) := by
      rw [ht, List.getElem?_map, hx]; rfl
    rw [List.getElem?_take] at h1
    split at h1
    · simpa using h1
    · cases h1
theorem add_off (g o j : Nat) : (⟨g, o, none⟩ : Addr).add j = ⟨g, o + j, none⟩ := by unfold Addr.add; split <;> simp_all
theorem below_grown {w w' : World} (h : w.grownBy w' none) : Below w.heap.size w w' := (Below.refl _ _).grown h (Nat.le_refl _) (fun k e => by cases e)

/-- 'append(splits[:n:n], top())': a new array -/
theorem step_app1 {ops : Array Oper} {o : Oper} {a : Act} {w : World} {K : Act → World → Prop} {Q : Exit → Act → World → Prop} {C : Prop}
    (hg : o.guard = none) (s x : Operand) (ho : o.op = .call { callee := .builtin .append, args := #[s, x], argTypes := #[22, 22] })
    (A : Option Addr) (l : List ByteArray) (len : Nat) (g : Nat) (hs : a.eval s = .slice A len len) (hx : a.eval x = .slice (some ⟨g, 0, none⟩) 1 1) (hl5 : l.length ≤ 5)
    (hcells : Strs w A len len l) (ht : w.cell? ⟨g, 0, none⟩ = some (.string top))
    (hK : ∀ g' cap w', Row w' g' (l ++ [top]) → w.heap.size ≤ g' → Below w.heap.size w w' → K (a.put o.dst (.slice (some ⟨g', 0, none⟩) (len + 1) cap)) w') :
    if Region.wanted o (yielded ops a.tmps) = true then Oper.wp Try.prog o a w K Q else C := by
  obtain ⟨i0, hi0, hz0, hz1, hz2⟩ := info_parts str_info
  have hlen := hcells.hlen
  refine step_append_grows hg s x 22 ho 9 i0 (.string ⟨#[]⟩) 1 16 Try.underlying22 hi0 hz0 hz1 hz2 rfl (by decide) A len len (l.map Value.string) hs ?_ (by simpa using hlen) ?_
    ⟨g, 0, none⟩ 1 1 [.string top] hx rfl ?_ ?_ (by omega) (by unfold maxLen; omega) (by omega) ?_
  · intro hA
    have := hcells.nil hA
    exact ⟨this, this⟩
  · intro b hb j u hj
    rw [List.getElem?_map] at hj
    cases hlj : l[j]? with
    | none => rw [hlj] at hj; cases hj
    | some y =>
      rw [hlj] at hj
      obtain ⟨g1, o1, hA, hc⟩ := hcells.cell j y hlj
      rw [hb] at hA
      injection hA with hA
      subst hA
      rw [add_off, hc]
      exact hj
  · intro j u hj
    cases j with
    | zero => rw [add_off]; rw [ht]; simpa using hj
    | succ j => simp at hj
  · intro u hu
    simp at hu
    subst hu
    rfl
  · intro v' w' hown hgrow
    have hown' : w'.ownsRow w.heap.size 9 1 v' (len + 1) ((l ++ [top]).map Value.string) := by rw [List.map_append]; exact hown
    obtain ⟨g', cap, rfl, hB, hr⟩ := Row.of_owns hown' (by omega)
    exact hK g' cap w' hr hB (below_grown hgrow)

/-- 'append([]string of no bytes, all these)': a new array -/
theorem step_app2 {ops : Array Oper} {o : Oper} {a : Act} {w : World} {K : Act → World → Prop} {Q : Exit → Act → World → Prop} {C : Prop}
    (hg : o.guard = none) (s x : Operand) (ho : o.op = .call { callee := .builtin .append, args := #[s, x], argTypes := #[22, 22] })
    (l : List ByteArray) (len g h cap : Nat) (hlen : l.length = len) (hs : a.eval s = .slice (some ⟨h, 0, none⟩) 1 1) (hx : a.eval x = .slice (some ⟨g, 0, none⟩) (len + 1) cap) (hl5 : l.length ≤ 5)
    (hr : Row w g (l ++ [top])) (ht : w.cell? ⟨h, 0, none⟩ = some (.string ⟨#[]⟩))
    (hK : ∀ g' cap w', Row w' g' (edges l) → w.heap.size ≤ g' → Below w.heap.size w w' → K (a.put o.dst (.slice (some ⟨g', 0, none⟩) (edges l).length cap)) w') :
    if Region.wanted o (yielded ops a.tmps) = true then Oper.wp Try.prog o a w K Q else C := by
  obtain ⟨i0, hi0, hz0, hz1, hz2⟩ := info_parts str_info
  refine step_append_grows hg s x 22 ho 9 i0 (.string ⟨#[]⟩) 1 16 Try.underlying22 hi0 hz0 hz1 hz2 rfl (by decide) (some ⟨h, 0, none⟩) 1 1 [.string ⟨#[]⟩] hs (fun e => by cases e) rfl ?_
    ⟨g, 0, none⟩ (len + 1) cap ((l ++ [top]).map Value.string) hx (by simp; omega) ?_ ?_ (by omega) (by unfold maxLen; omega) (by omega) ?_
  · intro b hb j u hj
    injection hb with hb
    subst hb
    cases j with
    | zero => rw [add_off]; rw [ht]; simpa using hj
    | succ j => simp at hj
  · intro j u hj
    rw [List.getElem?_map] at hj
    cases hlj : (l ++ [top])[j]? with
    | none => rw [hlj] at hj; cases hj
    | some y =>
      rw [hlj] at hj
      rw [add_off, Nat.zero_add, hr.cell hlj]
      exact hj
  · intro u hu
    obtain ⟨y, _, rfl⟩ := List.mem_map.1 hu
    rfl
  · intro v' w' hown hgrow
    have hown' : w'.ownsRow w.heap.size 9 1 v' (1 + (len + 1)) ((edges l).map Value.string) := hown
    obtain ⟨g', cap', rfl, hB, hr'⟩ := Row.of_owns hown' (by omega)
    have e : 1 + (len + 1) = (edges l).length := by rw [edges_length]; omega
    rw [e]
    exact hK g' cap' w' hr' hB (below_grown hgrow)

theorem bcell {W w1 : World} (hb : Below W.heap.size W w1) : (∀ b o, b < W.heap.size → w1.cell? ⟨b, o, none⟩ = W.cell? ⟨b, o, none⟩) ∧ (∀ b o, b < W.heap.size → w1.frozen? ⟨b, o, none⟩ = W.frozen? ⟨b, o, none⟩) :=
  ⟨fun b o h => hb.cell (p := ⟨b, o, none⟩) h, fun b o h => hb.frozen (p := ⟨b, o, none⟩) h⟩

theorem Are.made {w w' : World} {g cap : Nat} {E : List ByteArray} {n : Int} (hr : Row w' g E) (hg : w.heap.size ≤ g) (hb : Below w.heap.size w w') :
    Are w.heap.size (w'.alloc (.cells #[.slice (some ⟨g, 0, none⟩) E.length cap, .int .i64 n] 61)) w'.heap.size E n := by
  obtain ⟨cs, h, hc⟩ := hr
  exact ⟨g, cap, cs, Blk.new _ _ _, h.alloc _, hc, hb.size, hg⟩

def NewRel (l : List ByteArray) (w : World) (cnt : Nat) (s : Value) (w1 : World) : Prop :=
  ∃ k, k + cnt = l.length ∧ s = .int .i64 (k : Nat) ∧ (∀ j, j < k → good l j = true) ∧ w1 = w

theorem good_zero {l : List ByteArray} {x : ByteArray} (h : l[0]? = some x) : good l 0 = isK x := by unfold good; rw [h]; simp
theorem good_succ {l : List ByteArray} {i : Nat} {x p : ByteArray} (h : l[i + 1]? = some x) (hp : l[i]? = some p) : good l (i + 1) = (isK x && kl p x) := by unfold good; rw [h]; simp [hp]
theorem good_bad {l : List ByteArray} {k : Nat} {x : ByteArray} (h : l[k]? = some x) (hx : isK x = false) : good l k = false := by unfold good; rw [h]; simp [hx]
theorem NewRel.one {l : List ByteArray} {w : World} (h0 : 0 < l.length) (hg : good l 0 = true) : NewRel l w (l.length - 1) (.int .i64 1) w :=
  ⟨1, by omega, rfl, fun j hj => by have e : j = 0 := by omega
                                    rw [e]; exact hg, rfl⟩
theorem NewRel.next {l : List ByteArray} {w : World} {i : Nat} (hlt : i + 1 < l.length) (hall : ∀ j, j < i + 1 → good l j = true) (hg : good l (i + 1) = true) : NewRel l w (l.length - (i + 2)) (.int .i64 ((i : Int) + 1 + 1)) w :=
  ⟨i + 2, by omega, by simp; omega, fun j hj => by
    by_cases e : j = i + 1
    · rw [e]; exact hg
    · exact hall j (by omega), rfl⟩

set_option maxHeartbeats 400000 in
theorem New_limit (A : Option Addr) (len cap : Nat) (l : List ByteArray) (n : Int) (w : World) (hl : Strs w A len cap l) (h6 : 6 ≤ l.length) :
    Calls Try.prog 11 #[.slice A len cap, .int .i64 n] w fun e w' => e = .returned (.tuple #[.pointer none, .int .i64 5]) ∧ w = w' := by
  have hd : decide ((6 : Int) ≤ (len : Int)) = true := by have := hl.hlen; simp; omega
  clear hl h6
  go_enter Try.func11, Try.ntmps11
  go_wp2
  go_ret2
  exact ⟨rfl, rfl⟩

set_option maxHeartbeats 1000000 in
theorem New_arg (A : Option Addr) (len cap : Nat) (l : List ByteArray) (n : Int) (w : World) (hl : Strs w A len cap l) (h6 : l.length < 6) (hbad : okB l = false) :
    Calls Try.prog 11 #[.slice A len cap, .int .i64 n] w fun e w' => e = .returned (.tuple #[.pointer none, .int .i64 2]) ∧ w = w' := by
  obtain rfl := hl.hlen
  have HL := Lib.hid hl
  have HB := Lib.hid hbad
  have hl5 : l.length ≤ 5 := by omega
  clear hl h6 hbad
  go_enter Try.func11, Try.ntmps11
  go_wp2
  go_loopg [14] l.length (fun cnt s w1 => NewRel l w cnt s w1)
  case atStart => exact ⟨0, by omega, rfl, fun j hj => by omega, rfl⟩
  case round =>
    obtain ⟨k, hk, rfl, hall, rfl⟩ := hrel
    have HK := Lib.hid (And.intro hk hall)
    by_cases hlt : k < l.length
    · have hget := List.getElem?_eq_getElem hlt
      obtain ⟨g, o, rfl, hc⟩ := HL.out.cell k _ hget
      generalize l[k] = x at *
      have H1 := Lib.hid (isKey_any x wr)
      cases hkx : isK x with
      | false =>
        rw [hkx] at H1
        clear hget hall hk
        go_wp2_with fail
        refine H1.out.mono ?_
        rintro e w' ⟨rfl, rfl⟩
        go_wp2
        go_ret2
        exact ⟨rfl, rfl⟩
      | true =>
        rw [hkx] at H1
        cases k with
        | zero =>
          have HN : Hid (NewRel l wr (l.length - 1) (.int .i64 1) wr) := NewRel.one hlt ((good_zero hget).trans hkx)
          have hc0 : wr.cell? ⟨g, o, none⟩ = some (.string x) := hc
          clear hget hall hk hc hkx
          go_wp2_with fail
          refine H1.out.mono ?_
          rintro e w' ⟨rfl, rfl⟩
          go_wp2
          go_roundg (l.length - 1)
          case measure => have := HK.out.1; omega
          case rel => exact HN.out
        | succ i =>
          have hp := List.getElem?_eq_getElem (l := l) (i := i) (by omega)
          obtain ⟨g', o', hA, hc'⟩ := HL.out.cell i _ hp
          obtain ⟨rfl, rfl⟩ : g = g' ∧ o = o' := by simpa using hA
          generalize l[i] = p at *
          have hle := le_of_kl x p
          have hw1 : IntKind.i64.wrap ((i : Int) + 1 - 1) = (i : Int) := by rw [IntWalk.i64_in _ (by omega)]; omega
          cases hkp : kl p x with
          | true =>
            have h1 : Op.bytesLess x.toList p.toList = false := kl_asymm hkp
            have h2 : (x.toList == p.toList) = false := keq_false (fun e => by rw [e, kl_irrefl] at hkp; cases hkp)
            have HN : Hid (NewRel l wr (l.length - (i + 2)) (.int .i64 ((i : Int) + 1 + 1)) wr) := NewRel.next hlt hall (by rw [good_succ hget hp, hkx, hkp]; rfl)
            clear hget hall hk hp hA hle hkp hkx
            go_wp2_with fail
            refine H1.out.mono ?_
            rintro e w' ⟨rfl, rfl⟩
            go_wp2
            go_roundg (l.length - (i + 2))
            case measure => have := HK.out.1; omega
            case rel => exact HN.out
          | false =>
            rw [hkp] at hle
            cases h1 : Op.bytesLess x.toList p.toList with
            | true =>
              clear hget hall hk hp hA hle hkp hkx
              go_wp2_with fail
              refine H1.out.mono ?_
              rintro e w' ⟨rfl, rfl⟩
              go_wp2
              go_ret2
              exact ⟨rfl, rfl⟩
            | false =>
              have h2 : (x.toList == p.toList) = true := by rw [h1] at hle; simpa using hle
              clear hget hall hk hp hA hle hkp hkx
              go_wp2_with fail
              refine H1.out.mono ?_
              rintro e w' ⟨rfl, rfl⟩
              go_wp2
              go_ret2
              exact ⟨rfl, rfl⟩
    · exfalso
      obtain rfl : k = l.length := by omega
      have := HB.out
      unfold okB at this
      rw [List.all_eq_true.2 (fun j hj => hall j (List.mem_range.1 hj))] at this
      cases this

/-- all splits are looked at -/
theorem okB_of {l : List ByteArray} (h : ∀ j, j < l.length → good l j = true) : okB l = true := by
  unfold okB
  exact List.all_eq_true.2 fun j hj => h j (List.mem_range.1 hj)

set_option maxHeartbeats 1000000 in
theorem New_range (A : Option Addr) (len cap : Nat) (l : List ByteArray) (n : Int) (w : World) (hl : Strs w A len cap l) (h6 : l.length < 6) (hok : okB l = true) (hn : n < 1 ∨ 4 < n) :
    Calls Try.prog 11 #[.slice A len cap, .int .i64 n] w fun e w' => e = .returned (.tuple #[.pointer none, .int .i64 9]) ∧ w = w' := by
  obtain rfl := hl.hlen
  have HL := Lib.hid hl
  have HB := Lib.hid hok
  have hl5 : l.length ≤ 5 := by omega
  by_cases hn1 : n < 1
  all_goals
    have hd1 : decide (n < 1) = decide (n < 1) := rfl
    first
      | (have hn2 : decide (n < 1) = true := by simpa using hn1)
      | (have hn2 : decide (n < 1) = false := by simpa using hn1
         have hn3 : decide (4 < n) = true := by simp; omega)
    clear hl h6 hok hn hn1 hd1
    go_enter Try.func11, Try.ntmps11
    go_wp2
    go_loopg [14] l.length (fun cnt s w1 => NewRel l w cnt s w1)
    case atStart => exact ⟨0, by omega, rfl, fun j hj => by omega, rfl⟩
    case round =>
      obtain ⟨k, hk, rfl, hall, rfl⟩ := hrel
      have HK := Lib.hid (And.intro hk hall)
      by_cases hlt : k < l.length
      · have hget := List.getElem?_eq_getElem hlt
        obtain ⟨g, o, rfl, hc⟩ := HL.out.cell k _ hget
        have HG := Lib.hid (good_of HB.out hlt)
        have hkx : isK l[k] = true := by unfold isK; rw [decide_eq_true_eq]; exact isK_of HB.out hget
        have hkl : ∀ i, k = i + 1 → ∃ p, l[i]? = some p ∧ kl p l[k] = true := fun i e => by
          subst e
          have hp := List.getElem?_eq_getElem (l := l) (i := i) (by omega)
          exact ⟨_, hp, kl_of_ok HB.out hp hget⟩
        generalize l[k] = x at *
        have H1 := Lib.hid (isKey_any x wr)
        rw [hkx] at H1
        cases k with
        | zero =>
          have HN : Hid (NewRel l wr (l.length - 1) (.int .i64 1) wr) := NewRel.one hlt HG.out
          have hc0 : wr.cell? ⟨g, o, none⟩ = some (.string x) := hc
          clear hget hall hk hkl hkx hc
          go_wp2_with fail
          refine H1.out.mono ?_
          rintro e w' ⟨rfl, rfl⟩
          go_wp2
          go_roundg (l.length - 1)
          case measure => have := HK.out.1; omega
          case rel => exact HN.out
        | succ i =>
          obtain ⟨p, hp, hkp⟩ := hkl i rfl
          obtain ⟨g', o', hA, hc'⟩ := HL.out.cell i _ hp
          obtain ⟨rfl, rfl⟩ : g = g' ∧ o = o' := by simpa using hA
          have hw1 : IntKind.i64.wrap ((i : Int) + 1 - 1) = (i : Int) := by rw [IntWalk.i64_in _ (by omega)]; omega
          have h1 : Op.bytesLess x.toList p.toList = false := kl_asymm hkp
          have h2 : (x.toList == p.toList) = false := keq_false (fun e => by rw [e, kl_irrefl] at hkp; cases hkp)
          have HN : Hid (NewRel l wr (l.length - (i + 2)) (.int .i64 ((i : Int) + 1 + 1)) wr) := NewRel.next hlt hall HG.out
          clear hget hall hk hp hA hkp hkl hkx
          go_wp2_with fail
          refine H1.out.mono ?_
          rintro e w' ⟨rfl, rfl⟩
          go_wp2
          go_roundg (l.length - (i + 2))
          case measure => have := HK.out.1; omega
          case rel => exact HN.out
      · have ek : decide (k < l.length) = false := by simp; omega
        clear hall hk hlt
        go_wp2
        go_ret2
        exact ⟨rfl, rfl⟩

set_option maxHeartbeats 2000000 in
theorem New_ok (A : Option Addr) (len cap : Nat) (l : List ByteArray) (n : Int) (w : World) (hl : Strs w A len cap l) (h6 : l.length < 6) (hok : okB l = true) (hn1 : 1 ≤ n) (hn4 : n ≤ 4) :
    Calls Try.prog 11 #[.slice A len cap, .int .i64 n] w fun e w' => ∃ R, e = .returned (.tuple #[RP R, .int .i64 0]) ∧ Are w.heap.size w' R (edges l) n ∧ Below w.heap.size w w' := by
  obtain rfl := hl.hlen
  have HL := Lib.hid hl
  have HB := Lib.hid hok
  have hl5 : l.length ≤ 5 := by omega
  have hcap := hl.hcap
  have hcap1 : (l.length : Int) ≤ (cap : Int) := by omega
  have hcap0 : (0 : Int) ≤ (l.length : Int) := by omega
  have hn2 : decide (n < 1) = false := by simp; omega
  have hn3 : decide (4 < n) = false := by simp; omega
  have HCut : Hid (Strs w A l.length l.length l) := ⟨rfl, Nat.le_refl _, fun h => by have := hl.nil h; omega, hl.cell⟩
  clear hl h6 hok
  go_enter Try.func11, Try.ntmps11
  go_wp2
  go_loopg [14] l.length (fun cnt s w1 => NewRel l w cnt s w1)
  case atStart => exact ⟨0, by omega, rfl, fun j hj => by omega, rfl⟩
  case round =>
    obtain ⟨k, hk, rfl, hall, rfl⟩ := hrel
    have HK := Lib.hid (And.intro hk hall)
    by_cases hlt : k < l.length
    · have hget := List.getElem?_eq_getElem hlt
      obtain ⟨g, o, rfl, hc⟩ := HL.out.cell k _ hget
      have HG := Lib.hid (good_of HB.out hlt)
      have hkx : isK l[k] = true := by unfold isK; rw [decide_eq_true_eq]; exact isK_of HB.out hget
      have hkl : ∀ i, k = i + 1 → ∃ p, l[i]? = some p ∧ kl p l[k] = true := fun i e => by
        subst e
        have hp := List.getElem?_eq_getElem (l := l) (i := i) (by omega)
        exact ⟨_, hp, kl_of_ok HB.out hp hget⟩
      generalize l[k] = x at *
      have H1 := Lib.hid (isKey_any x wr)
      rw [hkx] at H1
      cases k with
      | zero =>
        have HN : Hid (NewRel l wr (l.length - 1) (.int .i64 1) wr) := NewRel.one hlt HG.out
        have hc0 : wr.cell? ⟨g, o, none⟩ = some (.string x) := hc
        clear hget hall hk hkl hkx hc
        go_wp2_with fail
        refine H1.out.mono ?_
        rintro e w' ⟨rfl, rfl⟩
        go_wp2
        go_roundg (l.length - 1)
        case measure => have := HK.out.1; omega
        case rel => exact HN.out
      | succ i =>
        obtain ⟨p, hp, hkp⟩ := hkl i rfl
        obtain ⟨g', o', hA, hc'⟩ := HL.out.cell i _ hp
        obtain ⟨rfl, rfl⟩ : g = g' ∧ o = o' := by simpa using hA
        have hw1 : IntKind.i64.wrap ((i : Int) + 1 - 1) = (i : Int) := by rw [IntWalk.i64_in _ (by omega)]; omega
        have h1 : Op.bytesLess x.toList p.toList = false := kl_asymm hkp
        have h2 : (x.toList == p.toList) = false := keq_false (fun e => by rw [e, kl_irrefl] at hkp; cases hkp)
        have HN : Hid (NewRel l wr (l.length - (i + 2)) (.int .i64 ((i : Int) + 1 + 1)) wr) := NewRel.next hlt hall HG.out
        clear hget hall hk hp hA hkp hkl hkx
        go_wp2_with fail
        refine H1.out.mono ?_
        rintro e w' ⟨rfl, rfl⟩
        go_wp2
        go_roundg (l.length - (i + 2))
        case measure => have := HK.out.1; omega
        case rel => exact HN.out
    · have ek : decide (k < l.length) = false := by simp; omega
      clear hall hk hlt
      go_wp2
      go_region_law (first
        | (refine step_app1 (by rfl) (.tmp 48) (.tmp 50) (by rfl) A l l.length _ (by rfl) (by rfl) hl5 ?_ ?_ ?_
           · first
               | exact HCut.out.below ((HB1.out).alloc HB1.out.size _)
               | exact HCut.out.below (((HB1.out).alloc HB1.out.size _).alloc (by have := HB1.out.size; simp; omega) _)
           · go_simp
           intro g1 c1 w2 HR hg1 hb1
           obtain ⟨hc1, hf1⟩ := bcell hb1
           have HR1 := Lib.hid HR
           have HB2 := Lib.hid (show Below _ wr w2 from (by
             first
               | exact (HB1.out.alloc HB1.out.size _).trans (hb1.mono (by have := HB1.out.size; simp; omega))
               | exact ((HB1.out.alloc HB1.out.size _).alloc (by have := HB1.out.size; simp; omega) _).trans (hb1.mono (by have := HB1.out.size; simp; omega))))
           clear HR hb1)
        | (go_simp; go_at_call 28; refine (top_any _).mono ?_; rintro e w1 ⟨rfl, hb⟩
           obtain ⟨hc, hf⟩ := bcell hb
           have HB1 := Lib.hid (show Below _ wr w1 from (by
             first
               | exact (Below.refl _ _).drew.trans hb
               | exact ((Below.refl _ wr).alloc (Nat.le_refl _) _).drew.trans (hb.mono (by simp))))
           have hz1 := hb.size
           simp at hz1
           clear hb)
        | (refine step_app2 (by rfl) (.tmp 44) (.tmp 51) (by rfl) l l.length _ _ _ rfl (by rfl) (by rfl) hl5 ?_ ?_ ?_
           · first
               | exact HR1.out
               | exact HR1.out.below ((Below.refl _ _).alloc (Nat.le_refl _) _)
           · first
               | (go_simp; done)
               | (rw [hc1 _ _ (by simp; omega), World.cell?_alloc_lt _ _ _ (by simp; omega), hc _ _ (by simp)]; go_simp; done)
           intro g3 c3 w4 HR hg3 hb3
           have HR3 := Lib.hid HR
           have HB3 := Lib.hid (show Below _ wr w4 from (by
             first
               | exact HB2.out.trans (hb3.mono HB2.out.size)
               | exact (HB2.out.alloc HB2.out.size _).trans (hb3.mono (by have := HB2.out.size; simp; omega))))
           have HG3 := Lib.hid (show wr.heap.size ≤ g3 from Nat.le_trans (by first | exact HB2.out.size | (have := HB2.out.size; simp; omega)) hg3)
           clear HR hb3))
      all_goals
        go_wp2
        go_ret2
        exact ⟨_, rfl, Are.made HR3.out HG3.out HB3.out, HB3.out.alloc HB3.out.size _⟩

/-- what New leaves -/
def NewPost (l : List ByteArray) (n : Int) (w : World) (e : Ending) (w' : World) : Prop :=
  (newE l n ≠ 0 ∧ e = .returned (.tuple #[.pointer none, .int .i64 (newE l n)]) ∧ w = w') ∨
  (newE l n = 0 ∧ ∃ R, e = .returned (.tuple #[RP R, .int .i64 0]) ∧ Are w.heap.size w' R (edges l) n ∧ Below w.heap.size w w')
theorem newE_zero {l : List ByteArray} {n : Int} (h : newE l n = 0) : l.length < 6 ∧ okB l = true ∧ 1 ≤ n ∧ n ≤ 4 := by
  unfold newE at h
  split at h
  · cases h
  · split at h
    · cases h
    · split at h
      · cases h
      · rename_i h1 h2 h3
        exact ⟨by omega, by simpa using h2, by omega, by omega⟩
theorem New_any (A : Option Addr) (len cap : Nat) (l : List ByteArray) (n : Int) (w : World) (hl : Strs w A len cap l) :
    Calls Try.prog 11 #[.slice A len cap, .int .i64 n] w fun e w' => NewPost l n w e w' := by
  by_cases h6 : 6 ≤ l.length
  · have e : newE l n = 5 := by unfold newE; rw [if_pos h6]
    exact (New_limit A len cap l n w hl h6).mono fun _ _ ⟨he, hw⟩ => .inl ⟨by rw [e]; decide, by rw [he, e], hw⟩
  · cases hok : okB l with
    | false =>
      have e : newE l n = 2 := by unfold newE; rw [if_neg h6, if_pos hok]
      exact (New_arg A len cap l n w hl (by omega) hok).mono fun _ _ ⟨he, hw⟩ => .inl ⟨by rw [e]; decide, by rw [he, e], hw⟩
    | true =>
      by_cases hn : n < 1 ∨ 4 < n
      · have e : newE l n = 9 := by unfold newE; rw [if_neg h6, if_neg (by rw [hok]; simp), if_pos hn]
        exact (New_range A len cap l n w hl (by omega) hok hn).mono fun _ _ ⟨he, hw⟩ => .inl ⟨by rw [e]; decide, by rw [he, e], hw⟩
      · have e : newE l n = 0 := by unfold newE; rw [if_neg h6, if_neg (by rw [hok]; simp), if_neg hn]
        exact (New_ok A len cap l n w hl (by omega) hok (by omega) (by omega)).mono fun _ _ ⟨R, he, hr, hb⟩ => .inr ⟨e, R, he, hr, hb⟩

end Rt
end Go.Proofs.Ytpkiiimbichooaa
