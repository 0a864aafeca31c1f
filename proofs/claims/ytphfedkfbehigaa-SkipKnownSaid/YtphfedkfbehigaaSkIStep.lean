/-
  Walk: 'Step' of a list of int: the keys that stand on a step, as a slice of the call's own.
-/
import Derived.Test.YtphfedkfbehigaaSkIReads
import Derived.OwnWalk
import Derived.Maps.AppendAt
namespace Go.Proofs.Ytphfedkfbehigaa
open Go.RowKit Sk
namespace SkI

theorem str_info : (Try.prog.info? 9).map (fun i => (i.zero, i.size, i.bytes)) = some (some (.string ⟨#[]⟩), 1, 16) := by kernel_rfl

def StepRel (w : World) (l : List Nd) (m cnt : Nat) (s5 s6 : Value) (wr : World) : Prop :=
  ∃ xs ys, l = xs ++ ys ∧ ys.length = cnt ∧ s6 = ptr (firstOn m ys) ∧ Below w.heap.size w wr ∧
    wr.ownsRow w.heap.size 9 1 s5 (keysOn m xs).length ((keysOn m xs).map Value.string)

theorem step_next {w w1 w2 : World} {l xs l1 l2 : List Nd} {y : Nd} {m : Nat} {v v' : Value} (hsplit : l = xs ++ (l1 ++ y :: l2)) (hy : m < y.i.s) (h1 : ∀ z ∈ l1, ¬ m < z.i.s) (hbel : Below w.heap.size w w1)
    (hown : w1.ownsRow w.heap.size 9 1 v (keysOn m xs).length ((keysOn m xs).map Value.string)) {o : Obj}
    (hown' : w2.ownsRow w.heap.size 9 1 v' ((keysOn m xs).length + 1) ((keysOn m xs).map Value.string ++ [.string y.i.k])) (hg : (w1.alloc o).grownBy w2 v.ownBlock) :
    StepRel w l m l2.length v' (ptr (firstOn m l2)) w2 := by
  refine ⟨xs ++ (l1 ++ [y]), l2, by rw [hsplit]; simp, rfl, rfl, ?_, ?_⟩
  · refine (hbel.alloc hbel.size o).grown hg (by have := hbel.size; simp; omega) ?_
    intro k hk
    exact (hown.lt k hk).1
  · have e : keysOn m (xs ++ (l1 ++ [y])) = keysOn m xs ++ [y.i.k] := by
      rw [keysOn_append, keysOn_append, keysOn_none h1, keysOn_one hy, List.nil_append]
    rw [e]
    simpa using hown'

set_option maxHeartbeats 800000 in
theorem Step_in (L : Nat) (H : Nd) (l : List Nd) (m : Nat) (w : World) (h : Is w L H l) (hm16 : m < 16) (hlen : l.length ≤ 1000000) :
    Calls Try.prog 24 #[.pointer (some ⟨L, 0, none⟩), .int .i64 ((m : Int) + 1)] w fun e w' =>
      ∃ v, e = .returned v ∧ w'.ownsRow w.heap.size 9 1 v (keysOn m l).length ((keysOn m l).map Value.string) ∧ Below w.heap.size w w' := by
  obtain ⟨i0, hi0, hz0, hz1, hz2⟩ := info_parts str_info
  have hc := Is_cell h
  have hfirst : w.cell? ⟨H.b, 3 + m, none⟩ = some (ptr (firstOn m l)) := by
    refine (h.mem.way (List.mem_cons_self) hm16).trans ?_
    have := h.hs
    simp [way, show m < H.i.s from by omega]
  have HM := Lib.hid h.mem
  have HND := Lib.hid h.nd
  have HL := Lib.hid hlen
  clear h hlen
  have hb1 : ¬ ((m : Int) + 1 < 1) := by omega
  have hb2 : ¬ (16 < (m : Int) + 1) := by omega
  obtain ⟨p, hp⟩ : ∃ p, p = firstOn m l := ⟨_, rfl⟩
  rw [← hp] at hfirst
  have HP := Lib.hid hp
  clear hp
  have hfirst' : w.cell? ⟨H.b, 3 + m, none⟩ = some (.pointer (p.map fun b => ⟨b, 0, none⟩)) := hfirst
  clear hfirst
  go_enter Try.func24, Try.ntmps24
  go_wp2_with fail
  refine (none_no _ _ _ hc).mono ?_
  rintro e w1 ⟨rfl, rfl⟩
  go_wp2_with fail
  go_loopg [5, 6] l.length (fun cnt s5 s6 wr => StepRel w l m cnt s5 s6 wr)
  case atStart => exact ⟨[], l, rfl, rfl, by rw [← HP.out]; rfl, Below.refl _ _, World.ownsRow_nil _ _ _ _⟩
  case round =>
    clear hc hfirst'
    obtain ⟨xs, ys, hsplit, hcnt, rfl, hbel, hown⟩ := hrel
    cases hf : firstOn m ys with
    | none =>
      have hxs : keysOn m xs = keysOn m l := by
        rw [hsplit, keysOn_append, keysOn_none (firstOn_none hf), List.append_nil]
      rw [hxs] at hown
      have HO := Lib.hid hown
      have HB := Lib.hid hbel
      simp only [ptr_none]
      clear hsplit hcnt hf hown hbel hxs hi0 hz0 hz1 hz2
      go_wp2
      go_ret
      exact ⟨_, rfl, HO.out, HB.out⟩
    | some b =>
      obtain ⟨l1, y, l2, hys, rfl, hy2, hy3⟩ := firstOn_split hf
      have hmem : y ∈ H :: l := by rw [hsplit, hys]; simp
      have hmr := HM.out.below hbel
      have c1 : wr.cell? ⟨y.b, 0, none⟩ = some (.string y.i.k) := hmr.key hmem
      have c2 : wr.cell? ⟨y.b, 3 + m, none⟩ = some (ptr (firstOn m l2)) := by
        refine (hmr.way hmem hm16).trans ?_
        have hnd := HND.out
        have e : H :: l = (H :: xs ++ l1) ++ y :: l2 := by rw [hsplit, hys]; simp
        rw [e] at hnd ⊢
        rw [way_at hnd, if_pos hy2]
      have hlt : y.b < w.heap.size := HM.out.lt hmem
      have hbnd : (keysOn m xs).length + 1 ≤ 1000000 := by
        have h1 := HL.out
        have h2 := keysOn_le m xs
        rw [hsplit, hys] at h1
        simp at h1
        omega
      have HC := Lib.hid (And.intro hsplit (And.intro hys (And.intro hcnt hy3)))
      have HB := Lib.hid hbel
      have HC2 := Lib.hid c2
      have HO := Lib.hid hown
      have HLT := Lib.hid (World.block_lt_of_cell? wr _ c1)
      have hbs := hbel.size
      simp only [ptr_some]
      clear hsplit hys hcnt hf hbel hmr c2 hown hmem
      go_wp2_with (at_builtin; refine wpList_append_own _ rfl _ _ 36 rfl w.heap.size 9 i0 (.string ⟨#[]⟩) 1 16 Try.underlying36 hi0 hz0 hz1 hz2 rfl (by decide) _ _ _ rfl (HO.out.alloc _) ⟨wr.heap.size, 0, none⟩ 1 1 [.string y.i.k] rfl rfl ?c1 ?c2 ?c3 ?c4 ?c5 ?_)
      case c2 => simp [Value.oneCell']
      case c3 => simp only [maxLen]; omega
      case c4 => omega
      case c5 => omega
      intro v' w2 hown' hg _
      obtain ⟨h1, h2, h3, h4⟩ := HC.out
      have hnext : StepRel w l m l2.length v' (ptr (firstOn m l2)) w2 := step_next (by rw [h1, h2]) hy2 h4 HB.out HO.out hown' hg
      have HN := Lib.hid hnext
      have d1 : w2.cell? ⟨y.b, 3 + m, none⟩ = some (ptr (firstOn m l2)) := by
        refine hg.cell (a := ⟨y.b, 3 + m, none⟩) ?_ ?_
        · rw [World.cell?_alloc_lt _ _ _ HLT.out]; exact HC2.out
        · intro e
          have := (HO.out.lt _ e.symm).1
          simp at this
          omega
      obtain ⟨p, hp⟩ : ∃ p, p = firstOn m l2 := ⟨_, rfl⟩
      rw [← hp] at d1
      have d2 : w2.cell? ⟨y.b, 3 + m, none⟩ = some (.pointer (p.map fun b => ⟨b, 0, none⟩)) := d1
      have HP2 := Lib.hid hp
      clear h1 h2 h3 h4 hown' hg hnext d1 hp c1 hi0 hz0 hz1 hz2
      go_wp2
      go_roundg l2.length
      case measure => obtain ⟨_, h2, h3, _⟩ := HC.out; rw [← h3, h2]; simp; omega
      case rel => have := HN.out; rw [← HP2.out] at this; exact this

set_option maxHeartbeats 400000 in
theorem Step_out (L : Nat) (H : Nd) (l : List Nd) (n : Int) (w : World) (h : Is w L H l) (hn : n < 1 ∨ 16 < n) :
    Calls Try.prog 24 #[.pointer (some ⟨L, 0, none⟩), .int .i64 n] w fun e w' => e = .returned (.slice none 0 0) ∧ w = w' := by
  have hc := Is_cell h
  clear h
  by_cases h1 : n < 1
  · clear hn
    go_enter Try.func24, Try.ntmps24
    go_wp2_with fail
    refine (none_no _ _ _ hc).mono ?_
    rintro e w1 ⟨rfl, rfl⟩
    go_wp2
    go_ret
    exact ⟨rfl, rfl⟩
  · have h2 : 16 < n := by omega
    clear hn
    go_enter Try.func24, Try.ntmps24
    go_wp2_with fail
    refine (none_no _ _ _ hc).mono ?_
    rintro e w1 ⟨rfl, rfl⟩
    go_wp2
    go_ret
    exact ⟨rfl, rfl⟩

end SkI
end Go.Proofs.Ytphfedkfbehigaa
