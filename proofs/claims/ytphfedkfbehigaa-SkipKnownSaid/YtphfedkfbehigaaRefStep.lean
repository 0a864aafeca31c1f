/-
  Walk: the reference's list (scriptoriumref09): 'Step'.
-/
import Derived.Test.YtphfedkfbehigaaRefPut
namespace Go.Proofs.Ytphfedkfbehigaa
open Go.RowKit Sk
namespace Rf

theorem str_info : (Try.prog.info? 9).map (fun i => (i.zero, i.size, i.bytes)) = some (some (.string ⟨#[]⟩), 1, 16) := by kernel_rfl

/-- the keys that stand on the step n -/
def stepKeys (n : Int) (l : List It) : List ByteArray := if 0 < n then (l.filter fun x => decide (n ≤ (x.s : Int))).map It.k else []
theorem stepKeys_append (n : Int) (l r : List It) : stepKeys n (l ++ r) = stepKeys n l ++ stepKeys n r := by unfold stepKeys; split <;> simp
theorem stepKeys_yes {n : Int} {x : It} (hn : 0 < n) (h : n ≤ (x.s : Int)) : stepKeys n [x] = [x.k] := by simp [stepKeys, hn, h]
theorem stepKeys_no {n : Int} {x : It} (h : ¬ n ≤ (x.s : Int)) : stepKeys n [x] = [] := by unfold stepKeys; split <;> simp [h]
theorem stepKeys_le (n : Int) (l : List It) : (stepKeys n l).length ≤ l.length := by
  unfold stepKeys
  split
  · simpa using List.length_filter_le _ l
  · simp

def StepRel (w : World) (l : List It) (n : Int) (cnt : Nat) (s5 s6 : Value) (wr : World) : Prop :=
  ∃ k, k + cnt = l.length ∧ s6 = .int .i64 (k : Nat) ∧ Below w.heap.size w wr ∧
    wr.ownsRow w.heap.size 9 1 s5 (stepKeys n (l.take k)).length ((stepKeys n (l.take k)).map Value.string)

theorem stepKeys_take {n : Int} {l : List It} {k : Nat} {x : It} (h : l[k]? = some x) : stepKeys n (l.take (k + 1)) = stepKeys n (l.take k) ++ stepKeys n [x] := by
  have hk := (List.getElem?_eq_some_iff.1 h).1
  have : l.take (k + 1) = l.take k ++ [x] := by
    rw [List.take_succ_eq_append_getElem hk]
    rw [List.getElem?_eq_getElem hk] at h
    injection h with h
    rw [h]
  rw [this, stepKeys_append]

set_option maxHeartbeats 1000000 in
theorem Step_any (B p : Nat) (v : Value) (l : List It) (n : Int) (w : World) (h : Is B w p v l) (hlen : l.length ≤ 1000000) :
    Calls Try.prog 26 #[.pointer (some ⟨p, 0, none⟩), .int .i64 n] w fun e w' =>
      ∃ u, e = .returned u ∧ w'.ownsRow w.heap.size 9 1 u (stepKeys n l).length ((stepKeys n l).map Value.string) ∧ Below w.heap.size w w' := by
  obtain ⟨i0, hi0, hz0, hz1, hz2⟩ := info_parts str_info
  have hpl := h.hdr.lt
  rcases h.form with ⟨rfl, rfl⟩ | ⟨g, cap, rfl, _, hcap⟩
  · have hc' : w.cell? ⟨p, 0, none⟩ = some (.slice none 0 0) := h.hdr.cell 0
    clear h hlen hi0 hz0 hz1 hz2
    go_enter Try.func26, Try.ntmps26
    go_wp2
    go_loopg [5, 6] 0 (fun cnt s5 s6 w1 => s5 = .slice none 0 0 ∧ s6 = .int .i64 0 ∧ w1 = w)
    case atStart => exact ⟨rfl, rfl, rfl⟩
    case round =>
      obtain ⟨rfl, rfl, rfl⟩ := hrel
      go_wp2
      go_ret
      refine ⟨_, rfl, ?_, Below.refl _ _⟩
      have : stepKeys n [] = [] := by unfold stepKeys; split <;> rfl
      rw [this]
      exact World.ownsRow_nil _ _ _ _
  · have hc' : w.cell? ⟨p, 0, none⟩ = some (.slice (some ⟨g, 0, none⟩) l.length cap) := h.hdr.cell 0
    have hgl : g < w.heap.size := by obtain ⟨cs, hg⟩ := owns_blk h.own; exact hg.lt
    have HC := Lib.hid hc'
    have HI := Lib.hid h
    clear h
    go_enter Try.func26, Try.ntmps26
    go_wp2
    go_loopg [5, 6] l.length (fun cnt s5 s6 wr => StepRel w l n cnt s5 s6 wr)
    case atStart =>
      refine ⟨0, by omega, rfl, Below.refl _ _, ?_⟩
      have : stepKeys n (l.take 0) = [] := by unfold stepKeys; split <;> rfl
      rw [this]
      exact World.ownsRow_nil _ _ _ _
    case round =>
      clear hc'
      obtain ⟨k, hk, rfl, hbel, hown⟩ := hrel
      have c0 : wr.cell? ⟨p, 0, none⟩ = some (.slice (some ⟨g, 0, none⟩) l.length cap) := (hbel.cell (p := ⟨p, 0, none⟩) hpl).trans HC.out
      have HB := Lib.hid hbel
      by_cases hlt : k < l.length
      · have hget := List.getElem?_eq_getElem hlt
        obtain ⟨_, d1, _, d3⟩ := HI.out.cells hget
        have htk := stepKeys_take (n := n) hget
        generalize l[k] = x at *
        have c1 : wr.cell? ⟨g, k * 3, none⟩ = some (.string x.k) := (hbel.cell (p := ⟨g, k * 3, none⟩) hgl).trans d1
        have c3 : wr.cell? ⟨g, k * 3 + 2, none⟩ = some (.int .i64 x.s) := (hbel.cell (p := ⟨g, k * 3 + 2, none⟩) hgl).trans d3
        by_cases hn : 0 < n
        · by_cases hxs : n ≤ (x.s : Int)
          · have hbnd : (stepKeys n (l.take k)).length ≤ 1000000 := Nat.le_trans (stepKeys_le _ _) (by simp; omega)
            rw [stepKeys_yes hn hxs] at htk
            have HT := Lib.hid htk
            have HO := Lib.hid hown
            have HK := Lib.hid hk
            have hbs := hbel.size
            clear htk hown hk hget d1 d3 hbel
            go_wp2_with (at_builtin; refine wpList_append_src rfl (.tmp 30) (.tmp 39) 36 rfl w.heap.size 9 i0 (.string ⟨#[]⟩) 1 16 Try.underlying36 hi0 hz0 hz1 hz2 rfl (by decide) _ _ _ rfl (HO.out.alloc _) (some ⟨wr.heap.size, 0, none⟩) 1 1 [.string x.k] rfl ?c1 ?c2 ?c3 ?c4 ?c5 ?c6 ?c7 ?_)
            case c4 => rfl
            case c5 => unfold maxLen; omega
            case c6 => omega
            case c7 => omega
            intro v2 w2 hown2 hg2
            have hb2 : Below w.heap.size w w2 := (HB.out.alloc hbs _).grown hg2 (by simp; omega) (fun k hk => (HO.out.lt k hk).1)
            have hrel : StepRel w l n (l.length - (k + 1)) v2 (.int .i64 ((k : Int) + 1)) w2 := by
              refine ⟨k + 1, by omega, by simp, hb2, ?_⟩
              rw [HT.out]
              simpa using hown2
            have HR := Lib.hid hrel
            clear hrel hown2 hg2 hb2 c0 c1 c3 hi0 hz0 hz1 hz2
            go_wp2
            go_roundg (l.length - (k + 1))
            case measure => have := HK.out; omega
            case rel => exact HR.out
          · have hxs2 : (x.s : Int) < n := by omega
            rw [stepKeys_no hxs, List.append_nil] at htk
            have hrel : StepRel w l n (l.length - (k + 1)) u5 (.int .i64 ((k : Int) + 1)) wr := by
              refine ⟨k + 1, by omega, by simp, hbel, ?_⟩
              rw [htk]
              exact hown
            have HR := Lib.hid hrel
            have HK := Lib.hid hk
            clear htk hown hk hget d1 d3 hbel hrel hi0 hz0 hz1 hz2
            go_wp2
            go_roundg (l.length - (k + 1))
            case measure => have := HK.out; omega
            case rel => exact HR.out
        · have e0 : ∀ l : List It, stepKeys n l = [] := fun l => by unfold stepKeys; rw [if_neg hn]
          rw [e0] at hown
          have HE := Lib.hid e0
          have HO := Lib.hid hown
          have hn2 : n ≤ 0 := by omega
          clear htk hown hk hget d1 d3 hbel hi0 hz0 hz1 hz2 e0 hn
          go_wp2
          go_ret
          refine ⟨_, rfl, ?_, HB.out⟩
          rw [HE.out]
          exact HO.out
      · have hkl : k = l.length := by omega
        have e1 : l.take k = l := by rw [hkl]; simp
        rw [e1] at hown
        have HO := Lib.hid hown
        have hge : l.length ≤ k := by omega
        clear hown hk hbel hi0 hz0 hz1 hz2 e1 hkl hlt
        go_wp2
        all_goals
          go_ret
          exact ⟨_, rfl, HO.out, HB.out⟩

end Rf
end Go.Proofs.Ytphfedkfbehigaa
