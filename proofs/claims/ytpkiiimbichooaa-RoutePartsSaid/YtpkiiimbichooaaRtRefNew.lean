/-
  Walks: the reference's route (scriptoriumref25): top, New, Span.
-/
import Derived.Test.YtpkiiimbichooaaRtRef
namespace Go.Proofs.Ytpkiiimbichooaa
open Go.RowKit Sk
namespace Rr
open Rt

def tc (k : Nat) : List Value := List.replicate k (.int .u8 255) ++ List.replicate (33 - k) (.int .u8 0)
theorem tc_len {k : Nat} (hk : k ≤ 33) : (tc k).length = 33 := by simp [tc]; omega
theorem tc_set {k : Nat} (hk : k < 33) : (tc k).set k (.int .u8 255) = tc (k + 1) := by
  unfold tc
  rw [List.set_append_right _ _ (by simp), List.length_replicate, Nat.sub_self]
  obtain ⟨m, hm⟩ : ∃ m, 33 - k = m + 1 := ⟨33 - k - 1, by omega⟩
  rw [hm, List.replicate_succ, List.set_cons_zero, show 33 - (k + 1) = m by omega, List.replicate_succ', List.append_assoc]
  rfl
theorem tc_at {k : Nat} (hk : k < 33) : (tc k)[k]? = some (.int .u8 0) := by
  unfold tc
  rw [List.getElem?_append_right (by simp), List.length_replicate, Nat.sub_self, List.getElem?_replicate, if_pos (by omega)]
theorem mk33 (w : World) : (Instr.makeSlice 74 (.int .i64 33) (.int .i64 33)).run Try.prog w = .ok (.slice (some ⟨w.heap.size, 0, none⟩) 33 33) (w.alloc (.cells (tc 0).toArray 5)) := by kernel_rfl
def TopRel (w : World) (cnt : Nat) (s : Value) (w1 : World) : Prop := ∃ k, k + cnt = 33 ∧ s = .int .i64 (k : Nat) ∧ Blk w1 w.heap.size 5 (tc k).toArray ∧ Below w.heap.size w w1

set_option maxRecDepth 100000 in
set_option maxHeartbeats 1000000 in
theorem top_any (w : World) : Calls Try.prog 42 #[] w fun e w' => e = .returned (.string top) ∧ Below w.heap.size w w' := by
  go_enter Try.func42, Try.ntmps42
  have hmk := mk33
  go_wp2
  clear hmk
  go_loopg [2] 33 (fun cnt s w1 => TopRel w cnt s w1)
  case atStart => exact ⟨0, rfl, rfl, Blk.new w _ _, (Below.refl _ _).alloc (Nat.le_refl _) _⟩
  case round =>
    obtain ⟨k, hk, rfl, hblk, hbel⟩ := hrel
    have HK := Lib.hid hk
    by_cases hlt : k < 33
    · have hi : (k : Int) < 33 := by omega
      have c : wr.cell? ⟨w.heap.size, k, none⟩ = some (.int .u8 0) := (hblk.cell k).trans (by rw [List.getElem?_toArray]; exact tc_at hlt)
      have f : wr.frozen? ⟨w.heap.size, k, none⟩ = false := hblk.free k
      have HN : Hid (TopRel w (33 - (k + 1)) (.int .i64 ((k : Int) + 1)) (wr.setCell ⟨w.heap.size, k, none⟩ (.int .u8 255))) :=
        ⟨k + 1, by omega, by simp, by have := hblk.set_ k (.int .u8 255); rw [List.setIfInBounds_toArray, tc_set hlt] at this; exact this, hbel.setCell (Nat.le_refl _) _⟩
      clear hblk hbel hk
      go_wp2
      go_roundg (33 - (k + 1))
      case measure => have := HK.out; omega
      case rel => exact HN.out
    · have hk33 : k = 33 := by omega
      subst hk33
      have hconv : (convert 74 9 (.slice (some ⟨w.heap.size, 0, none⟩) 33 33)).run Try.prog wr = .ok (.string top) wr := by
        have := run_convert_bytes_back (P := Try.prog) wr 74 9 5 ⟨w.heap.size, 0, none⟩ 33 (List.replicate 33 255) Try.underlying74 Try.underlying5 Try.underlying9 (fun j hj => by
          have hj33 : j < 33 := by simpa using hj
          rw [addr_add, Nat.zero_add, hblk.cell j, List.getElem?_toArray]
          unfold tc
          rw [List.getElem?_append_left (by simpa using hj33)]
          rw [List.getElem_replicate, List.getElem?_replicate, if_pos (by omega)]
          rfl)
        simpa [top] using this
      have HB := Lib.hid hbel
      clear hblk hbel hk hlt
      go_wp2
      go_ret
      exact ⟨rfl, HB.out⟩

def NRel (l : List ByteArray) (w : World) (cnt : Nat) (s : Value) (w1 : World) : Prop :=
  ∃ k, k + cnt = l.length ∧ s = .int .i64 (k : Nat) ∧ (∀ j, j < k → good l j = true) ∧ Below w.heap.size w w1
theorem NRel.one {l : List ByteArray} {w w1 : World} (h0 : 0 < l.length) (hg : good l 0 = true) (hb : Below w.heap.size w w1) : NRel l w (l.length - 1) (.int .i64 1) w1 :=
  ⟨1, by omega, rfl, fun j hj => by have e : j = 0 := by omega
                                    rw [e]; exact hg, hb⟩
theorem NRel.next {l : List ByteArray} {w w1 : World} {i : Nat} (hlt : i + 1 < l.length) (hall : ∀ j, j < i + 1 → good l j = true) (hg : good l (i + 1) = true) (hb : Below w.heap.size w w1) : NRel l w (l.length - (i + 2)) (.int .i64 ((i : Int) + 1 + 1)) w1 :=
  ⟨i + 2, by omega, by simp; omega, fun j hj => by
    by_cases e : j = i + 1
    · rw [e]; exact hg
    · exact hall j (by omega), hb⟩

set_option maxHeartbeats 400000 in
theorem New_limit (A : Option Addr) (len cap : Nat) (l : List ByteArray) (n : Int) (w : World) (hl : Strs w A len cap l) (h6 : 6 ≤ l.length) :
    Calls Try.prog 20 #[.slice A len cap, .int .i64 n] w fun e w' => e = .returned (.tuple #[.pointer none, .int .i64 5]) ∧ Below w.heap.size w w' := by
  have hd : decide ((5 : Int) < (len : Int)) = true := by have := hl.hlen; simp; omega
  clear hl h6
  go_enter Try.func20, Try.ntmps20
  go_wp2
  go_ret2
  exact ⟨rfl, Below.refl _ _⟩

/-- the call of 'key' within a region that draws -/
theorem key_q {x : ByteArray} {b : Bool} (h : isK x = b) (w : World) (q : Nat) : Calls Try.prog 39 #[.string x] (w.drewN q) fun e w' => e = .returned (.bool b) ∧ w' = w.drewN q :=
  (key_any x (w.drewN q)).mono fun _ _ ⟨a, c⟩ => ⟨by rw [a, h], c.symm⟩

set_option maxHeartbeats 2000000 in
theorem New_arg (A : Option Addr) (len cap : Nat) (l : List ByteArray) (n : Int) (w : World) (hl : Strs w A len cap l) (h6 : l.length < 6) (hbad : okB l = false) :
    Calls Try.prog 20 #[.slice A len cap, .int .i64 n] w fun e w' => e = .returned (.tuple #[.pointer none, .int .i64 2]) ∧ Below w.heap.size w w' := by
  obtain rfl := hl.hlen
  have HL := Lib.hid hl
  have HB := Lib.hid hbad
  have hl5 : l.length ≤ 5 := by omega
  clear hl h6 hbad
  go_enter Try.func20, Try.ntmps20
  go_wp2
  go_loopg [6] l.length (fun cnt s w1 => NRel l w cnt s w1)
  case atStart => exact ⟨0, by omega, rfl, fun j hj => by omega, Below.refl _ _⟩
  case round =>
    obtain ⟨k, hk, rfl, hall, hbel⟩ := hrel
    have HK := Lib.hid (And.intro hk hall)
    have HBL := Lib.hid hbel
    by_cases hlt : k < l.length
    · have hget := List.getElem?_eq_getElem hlt
      have hlr := HL.out.below hbel
      obtain ⟨g, o, rfl, hc⟩ := hlr.cell k _ hget
      have HLR := Lib.hid hlr
      have hlI : (k : Int) < (l.length : Int) := by omega
      have hkI : (0 : Int) ≤ (k : Int) := by omega
      generalize l[k] = x at *
      cases hkx : isK x with
      | false =>
        have H1 : Hid (∀ q, Calls Try.prog 39 #[.string x] (wr.drewN q) fun e w' => e = .returned (.bool false) ∧ w' = wr.drewN q) := key_q hkx wr
        clear hget hall hk hkx hbel hlr
        go_wp2
        go_quiet ((go_at_call 39; exact Calls.quiet_of_same (H1.out _)))
        go_wp2
        go_ret2
        exact ⟨rfl, below_drewN' HBL.out _⟩
      | true =>
        have H1 : Hid (∀ q, Calls Try.prog 39 #[.string x] (wr.drewN q) fun e w' => e = .returned (.bool true) ∧ w' = wr.drewN q) := key_q hkx wr
        cases k with
        | zero =>
          have HN : Hid (∀ q, NRel l w (l.length - 1) (.int .i64 1) (wr.drewN q)) := fun q => NRel.one hlt ((good_zero hget).trans hkx) (below_drewN' hbel q)
          have hc0 : wr.cell? ⟨g, o, none⟩ = some (.string x) := hc
          clear hget hall hk hkx hbel hlr hc
          go_wp2
          go_quiet ((go_at_call 39; exact Calls.quiet_of_same (H1.out _)))
          go_wp2
          go_roundg (l.length - 1)
          case measure => have := HK.out.1; omega
          case rel => exact HN.out _
        | succ i =>
          have hp := List.getElem?_eq_getElem (l := l) (i := i) (by omega)
          obtain ⟨g', o', hA, hc'⟩ := HLR.out.cell i _ hp
          obtain ⟨rfl, rfl⟩ : g = g' ∧ o = o' := by simpa using hA
          generalize l[i] = p at *
          have hle := le_of_kl x p
          have hw1 : IntKind.i64.wrap ((i : Int) + 1 - 1) = (i : Int) := by rw [IntWalk.i64_in _ (by omega)]; omega
          have hj1 : (i : Int) + 1 < (l.length : Int) := by omega
          have hj2 : (i : Int) < (l.length : Int) := by omega
          have hj4 : (0 : Int) ≤ (i : Int) := by omega
          have hj5 : (0 : Int) < (i : Int) + 1 := by omega
          cases hkp : kl p x with
          | true =>
            have h1 : Op.bytesLess x.toList p.toList = false := kl_asymm hkp
            have h2 : (x.toList == p.toList) = false := keq_false (fun e => by rw [e, kl_irrefl] at hkp; cases hkp)
            have HN : Hid (∀ q, NRel l w (l.length - (i + 2)) (.int .i64 ((i : Int) + 1 + 1)) (wr.drewN q)) := fun q => NRel.next hlt hall (by rw [good_succ hget hp, hkx, hkp]; rfl) (below_drewN' hbel q)
            clear hget hall hk hp hA hle hkp hkx hbel hlr
            go_wp2
            go_quiet ((go_at_call 39; exact Calls.quiet_of_same (H1.out _)))
            go_wp2
            go_roundg (l.length - (i + 2))
            case measure => have := HK.out.1; omega
            case rel => exact HN.out _
          | false =>
            rw [hkp] at hle
            cases h1 : Op.bytesLess x.toList p.toList with
            | true =>
              clear hget hall hk hp hA hle hkp hkx hbel hlr
              go_wp2
              go_quiet ((go_at_call 39; exact Calls.quiet_of_same (H1.out _)))
              go_wp2
              go_ret2
              exact ⟨rfl, below_drewN' HBL.out _⟩
            | false =>
              have h2 : (x.toList == p.toList) = true := by rw [h1] at hle; simpa using hle
              clear hget hall hk hp hA hle hkp hkx hbel hlr
              go_wp2
              go_quiet ((go_at_call 39; exact Calls.quiet_of_same (H1.out _)))
              go_wp2
              go_ret2
              exact ⟨rfl, below_drewN' HBL.out _⟩
    · exfalso
      obtain rfl : k = l.length := by omega
      have := HB.out
      unfold okB at this
      rw [List.all_eq_true.2 (fun j hj => hall j (List.mem_range.1 hj))] at this
      cases this

set_option maxHeartbeats 2000000 in
theorem New_range (A : Option Addr) (len cap : Nat) (l : List ByteArray) (n : Int) (w : World) (hl : Strs w A len cap l) (h6 : l.length < 6) (hok : okB l = true) (hn : n < 1 ∨ 4 < n) :
    Calls Try.prog 20 #[.slice A len cap, .int .i64 n] w fun e w' => e = .returned (.tuple #[.pointer none, .int .i64 9]) ∧ Below w.heap.size w w' := by
  obtain rfl := hl.hlen
  have HL := Lib.hid hl
  have HB := Lib.hid hok
  have hl5 : l.length ≤ 5 := by omega
  by_cases hn1 : n < 1
  all_goals
    first
      | (have hn2 : decide (n < 1) = true := by simpa using hn1)
      | (have hn2 : decide (n < 1) = false := by simpa using hn1
         have hn3 : decide (4 < n) = true := by simp; omega)
    clear hl h6 hok hn hn1
    go_enter Try.func20, Try.ntmps20
    go_wp2
    go_loopg [6] l.length (fun cnt s w1 => NRel l w cnt s w1)
    case atStart => exact ⟨0, by omega, rfl, fun j hj => by omega, Below.refl _ _⟩
    case round =>
      obtain ⟨k, hk, rfl, hall, hbel⟩ := hrel
      have HK := Lib.hid (And.intro hk hall)
      have HBL := Lib.hid hbel
      by_cases hlt : k < l.length
      · have hget := List.getElem?_eq_getElem hlt
        have hlr := HL.out.below hbel
        obtain ⟨g, o, rfl, hc⟩ := hlr.cell k _ hget
        have HLR := Lib.hid hlr
        have HG := Lib.hid (good_of HB.out hlt)
        have hlI : (k : Int) < (l.length : Int) := by omega
        have hkI : (0 : Int) ≤ (k : Int) := by omega
        have hkx : isK l[k] = true := by unfold isK; rw [decide_eq_true_eq]; exact isK_of HB.out hget
        have hkl : ∀ i, k = i + 1 → ∃ p, l[i]? = some p ∧ kl p l[k] = true := fun i e => by
          subst e
          have hp := List.getElem?_eq_getElem (l := l) (i := i) (by omega)
          exact ⟨_, hp, kl_of_ok HB.out hp hget⟩
        generalize l[k] = x at *
        have H1 : Hid (∀ q, Calls Try.prog 39 #[.string x] (wr.drewN q) fun e w' => e = .returned (.bool true) ∧ w' = wr.drewN q) := key_q hkx wr
        cases k with
        | zero =>
          have HN : Hid (∀ q, NRel l w (l.length - 1) (.int .i64 1) (wr.drewN q)) := fun q => NRel.one hlt HG.out (below_drewN' hbel q)
          have hc0 : wr.cell? ⟨g, o, none⟩ = some (.string x) := hc
          clear hget hall hk hkx hbel hlr hc hkl
          go_wp2
          go_quiet ((go_at_call 39; exact Calls.quiet_of_same (H1.out _)))
          go_wp2
          go_roundg (l.length - 1)
          case measure => have := HK.out.1; omega
          case rel => exact HN.out _
        | succ i =>
          obtain ⟨p, hp, hkp⟩ := hkl i rfl
          obtain ⟨g', o', hA, hc'⟩ := HLR.out.cell i _ hp
          obtain ⟨rfl, rfl⟩ : g = g' ∧ o = o' := by simpa using hA
          have hw1 : IntKind.i64.wrap ((i : Int) + 1 - 1) = (i : Int) := by rw [IntWalk.i64_in _ (by omega)]; omega
          have hj1 : (i : Int) + 1 < (l.length : Int) := by omega
          have hj2 : (i : Int) < (l.length : Int) := by omega
          have hj4 : (0 : Int) ≤ (i : Int) := by omega
          have hj5 : (0 : Int) < (i : Int) + 1 := by omega
          have h1 : Op.bytesLess x.toList p.toList = false := kl_asymm hkp
          have h2 : (x.toList == p.toList) = false := keq_false (fun e => by rw [e, kl_irrefl] at hkp; cases hkp)
          have HN : Hid (∀ q, NRel l w (l.length - (i + 2)) (.int .i64 ((i : Int) + 1 + 1)) (wr.drewN q)) := fun q => NRel.next hlt hall HG.out (below_drewN' hbel q)
          clear hget hall hk hp hA hkp hkx hbel hlr hkl
          go_wp2
          go_quiet ((go_at_call 39; exact Calls.quiet_of_same (H1.out _)))
          go_wp2
          go_roundg (l.length - (i + 2))
          case measure => have := HK.out.1; omega
          case rel => exact HN.out _
      · have ek : decide (k < l.length) = false := by simp; omega
        clear hall hk hlt hbel
        go_wp2
        go_ret2
        exact ⟨rfl, HBL.out⟩

set_option maxHeartbeats 4000000 in
theorem New_ok (A : Option Addr) (len cap : Nat) (l : List ByteArray) (n : Int) (w : World) (hl : Strs w A len cap l) (h6 : l.length < 6) (hok : okB l = true) (hn1 : 1 ≤ n) (hn4 : n ≤ 4) :
    Calls Try.prog 20 #[.slice A len cap, .int .i64 n] w fun e w' => ∃ p, e = .returned (.tuple #[RP p, .int .i64 0]) ∧ Are w.heap.size w' p l n ∧ Below w.heap.size w w' := by
  obtain ⟨i0, hi0, hz0, hz1, hz2⟩ := info_parts str_info
  have HI := Lib.hid (And.intro hi0 (And.intro hz0 (And.intro hz1 hz2)))
  obtain rfl := hl.hlen
  have HL := Lib.hid hl
  have HB := Lib.hid hok
  have hl5 : l.length ≤ 5 := by omega
  have hn2 : decide (n < 1) = false := by simp; omega
  have hn3 : decide (4 < n) = false := by simp; omega
  clear hl h6 hok hi0 hz0 hz1 hz2
  go_enter Try.func20, Try.ntmps20
  go_wp2
  go_loopg [6] l.length (fun cnt s w1 => NRel l w cnt s w1)
  case atStart => exact ⟨0, by omega, rfl, fun j hj => by omega, Below.refl _ _⟩
  case round =>
    obtain ⟨k, hk, rfl, hall, hbel⟩ := hrel
    have HK := Lib.hid (And.intro hk hall)
    have HBL := Lib.hid hbel
    by_cases hlt : k < l.length
    · have hget := List.getElem?_eq_getElem hlt
      have hlr := HL.out.below hbel
      obtain ⟨g, o, rfl, hc⟩ := hlr.cell k _ hget
      have HLR := Lib.hid hlr
      have HG := Lib.hid (good_of HB.out hlt)
      have hlI : (k : Int) < (l.length : Int) := by omega
      have hkI : (0 : Int) ≤ (k : Int) := by omega
      have hkx : isK l[k] = true := by unfold isK; rw [decide_eq_true_eq]; exact isK_of HB.out hget
      have hkl : ∀ i, k = i + 1 → ∃ p, l[i]? = some p ∧ kl p l[k] = true := fun i e => by
        subst e
        have hp := List.getElem?_eq_getElem (l := l) (i := i) (by omega)
        exact ⟨_, hp, kl_of_ok HB.out hp hget⟩
      generalize l[k] = x at *
      have H1 : Hid (∀ q, Calls Try.prog 39 #[.string x] (wr.drewN q) fun e w' => e = .returned (.bool true) ∧ w' = wr.drewN q) := key_q hkx wr
      cases k with
      | zero =>
        have HN : Hid (∀ q, NRel l w (l.length - 1) (.int .i64 1) (wr.drewN q)) := fun q => NRel.one hlt HG.out (below_drewN' hbel q)
        have hc0 : wr.cell? ⟨g, o, none⟩ = some (.string x) := hc
        clear hget hall hk hkx hbel hlr hc hkl
        go_wp2
        go_quiet ((go_at_call 39; exact Calls.quiet_of_same (H1.out _)))
        go_wp2
        go_roundg (l.length - 1)
        case measure => have := HK.out.1; omega
        case rel => exact HN.out _
      | succ i =>
        obtain ⟨p, hp, hkp⟩ := hkl i rfl
        obtain ⟨g', o', hA, hc'⟩ := HLR.out.cell i _ hp
        obtain ⟨rfl, rfl⟩ : g = g' ∧ o = o' := by simpa using hA
        have hw1 : IntKind.i64.wrap ((i : Int) + 1 - 1) = (i : Int) := by rw [IntWalk.i64_in _ (by omega)]; omega
        have hj1 : (i : Int) + 1 < (l.length : Int) := by omega
        have hj2 : (i : Int) < (l.length : Int) := by omega
        have hj4 : (0 : Int) ≤ (i : Int) := by omega
        have hj5 : (0 : Int) < (i : Int) + 1 := by omega
        have h1 : Op.bytesLess x.toList p.toList = false := kl_asymm hkp
        have h2 : (x.toList == p.toList) = false := keq_false (fun e => by rw [e, kl_irrefl] at hkp; cases hkp)
        have HN : Hid (∀ q, NRel l w (l.length - (i + 2)) (.int .i64 ((i : Int) + 1 + 1)) (wr.drewN q)) := fun q => NRel.next hlt hall HG.out (below_drewN' hbel q)
        clear hget hall hk hp hA hkp hkx hbel hlr hkl
        go_wp2
        go_quiet ((go_at_call 39; exact Calls.quiet_of_same (H1.out _)))
        go_wp2
        go_roundg (l.length - (i + 2))
        case measure => have := HK.out.1; omega
        case rel => exact HN.out _
    · have ek : decide (k < l.length) = false := by simp; omega
      have HS := Lib.hid ((HL.out.below hbel).below ((Below.refl _ wr).alloc (Nat.le_refl _) (.cells #[.slice none 0 0, .int .i64 n] 82)))
      have lw := hbel.size
      clear hall hk hlt hbel
      go_wp2_with (at_builtin; refine wpList_append_src rfl (.tmp 52) (.tmp 53) 22 rfl (wr.heap.size + 1) 9 i0 _ 1 16 Try.underlying22 HI.out.1 HI.out.2.1 HI.out.2.2.1 HI.out.2.2.2 rfl (by decide) _ 0 [] rfl (World.ownsRow_nil _ _ _ _) A l.length cap (l.map Value.string) rfl ?h1 ?h2 ?h3 ?h4 ?h5 ?h6 ?h7 ?_)
      case h1 => simp
      case h2 => intro hA; have := HS.out.nil hA; have := HS.out.hcap; omega
      case h3 =>
        intro ad had j u hu
        rw [List.getElem?_map] at hu
        cases hlj : l[j]? with
        | none => rw [hlj] at hu; cases hu
        | some y =>
          rw [hlj] at hu
          obtain ⟨g, o, hA, hc⟩ := HS.out.cell j y hlj
          rw [had] at hA
          injection hA with hA
          subst hA
          rw [addr_add, hc]
          exact hu
      case h4 =>
        intro u hu
        obtain ⟨y, _, rfl⟩ := List.mem_map.1 hu
        rfl
      case h5 => unfold maxLen; omega
      case h6 => omega
      case h7 => simp
      intro v' w2 hown hg
      have hown2 : w2.ownsRow (wr.heap.size + 1) 9 1 v' l.length (l.map Value.string) := by simpa using hown
      have hb2 : Below (wr.heap.size + 1) (wr.alloc (.cells #[.slice none 0 0, .int .i64 n] 82)) w2 := (Below.refl _ _).grown hg (by simp) (fun k e => by cases e)
      have hblk : Blk w2 wr.heap.size 82 #[.slice none 0 0, .int .i64 n] := (hb2.block _ (by omega)).trans (heap_alloc_new wr _)
      have c0 : w2.cell? ⟨wr.heap.size, 0, none⟩ = some (.slice none 0 0) := hblk.cell 0
      have f0 : w2.frozen? ⟨wr.heap.size, 0, none⟩ = false := hblk.free 0
      have HF : Hid (Are w.heap.size (w2.setCell ⟨wr.heap.size, 0, none⟩ v') wr.heap.size l n ∧ Below w.heap.size w (w2.setCell ⟨wr.heap.size, 0, none⟩ v')) := by
        refine ⟨⟨v', ?_, ?_, lw⟩, ?_⟩
        · have := hblk.set_ 0 v'
          simpa using this
        · exact owns_mono (ownsRow_setCell_below hown2 (a := ⟨wr.heap.size, 0, none⟩) (by simp) v') (by omega)
        · exact ((HBL.out.alloc lw _).trans (hb2.mono (by omega))).setCell (p := ⟨wr.heap.size, 0, none⟩) lw _
      obtain ⟨A2, c2, hv⟩ : ∃ A2 c2, v' = .slice A2 l.length c2 := by
        rcases owns_form hown2 with ⟨hv, h0, _⟩ | ⟨g, cap, hv, _, _⟩
        · exact ⟨none, 0, by rw [hv, h0]⟩
        · exact ⟨_, _, hv⟩
      subst hv
      clear hown hown2 hg hb2 hblk
      go_wp2
      go_ret2
      exact ⟨_, rfl, HF.out⟩

def NewPost (l : List ByteArray) (n : Int) (w : World) (e : Ending) (w' : World) : Prop :=
  (newE l n ≠ 0 ∧ e = .returned (.tuple #[.pointer none, .int .i64 (newE l n)]) ∧ Below w.heap.size w w') ∨
  (newE l n = 0 ∧ ∃ p, e = .returned (.tuple #[RP p, .int .i64 0]) ∧ Are w.heap.size w' p l n ∧ Below w.heap.size w w')
theorem New_any (A : Option Addr) (len cap : Nat) (l : List ByteArray) (n : Int) (w : World) (hl : Strs w A len cap l) :
    Calls Try.prog 20 #[.slice A len cap, .int .i64 n] w fun e w' => NewPost l n w e w' := by
  by_cases h6 : 6 ≤ l.length
  · have e : newE l n = 5 := by unfold newE; rw [if_pos h6]
    exact (New_limit A len cap l n w hl h6).mono fun _ _ ⟨he, hw⟩ => .inl ⟨by rw [e]; decide, by rw [he, e], hw⟩
  · cases hok : okB l with
    | false =>
      have e : newE l n = 2 := by unfold newE; rw [if_neg h6, if_pos hok]
      exact (New_arg A len cap l n w hl (by omega) hok).mono fun _ _ ⟨he, hw⟩ => .inl ⟨by rw [e]; decide, by rw [he, e], hw⟩
    | true =>
      by_cases hn : n < 1 ∨ 4 < n
      · have e : newE l n = 9 := by unfold newE; rw [if_neg h6, if_neg (by rw [hok]; simp), if_pos hn]
        exact (New_range A len cap l n w hl (by omega) hok hn).mono fun _ _ ⟨he, hw⟩ => .inl ⟨by rw [e]; decide, by rw [he, e], hw⟩
      · have e : newE l n = 0 := by unfold newE; rw [if_neg h6, if_neg (by rw [hok]; simp), if_neg hn]
        exact (New_ok A len cap l n w hl (by omega) hok (by omega) (by omega)).mono fun _ _ ⟨R, he, hr, hb⟩ => .inr ⟨e, R, he, hr, hb⟩

end Rr
end Go.Proofs.Ytpkiiimbichooaa
