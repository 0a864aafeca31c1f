/-
  Walks: 'none', and 'ahead' of a list of string: step by step the last nodes whose keys are below one.
-/
import Derived.Test.YtoglklldclgcbaaRows
import Derived.Test.YtoglklldclgcbaaSkMem
import Derived.WalkKit
import Derived.WalkSpells
import Derived.WalkLawsBesides
import Derived.Lib.Hide
import Derived.Deep.LoopGhost
namespace Go.Proofs.Ytoglklldclgcbaa
open Go.RowKit Sk
namespace SkS

/-- the list lies in memory: its own type numbers -/
abbrev Is (w : World) (L : Nat) (H : Nd) (l : List Nd) : Prop := Sk.Is 76 78 w L H l

theorem Is_cell {w : World} {L : Nat} {H : Nd} {l : List Nd} (h : Is w L H l) : w.cell? ⟨L, 0, none⟩ = some (.pointer (some ⟨H.b, 0, none⟩)) := h.hdr.cell 0

set_option maxHeartbeats 400000 in
theorem none_no (b h : Nat) (w : World) (hc : w.cell? ⟨b, 0, none⟩ = some (.pointer (some ⟨h, 0, none⟩))) :
    Calls Try.prog 51 #[.pointer (some ⟨b, 0, none⟩)] w fun e w' => e = .returned (.bool false) ∧ w = w' := by
  go_enter Try.func51, Try.ntmps51
  go_wp2
  go_ret
  exact ⟨rfl, rfl⟩

set_option maxHeartbeats 400000 in
theorem none_nil (w : World) :
    Calls Try.prog 51 #[.pointer none] w fun e w' => e = .returned (.bool true) ∧ w = w' := by
  go_enter Try.func51, Try.ntmps51
  go_wp2
  go_ret
  exact ⟨rfl, rfl⟩

set_option maxHeartbeats 400000 in
theorem none_bare (b : Nat) (w : World) (hc : w.cell? ⟨b, 0, none⟩ = some (.pointer none)) :
    Calls Try.prog 51 #[.pointer (some ⟨b, 0, none⟩)] w fun e w' => e = .returned (.bool true) ∧ w = w' := by
  go_enter Try.func51, Try.ntmps51
  go_wp2
  go_ret
  exact ⟨rfl, rfl⟩

def AheadOut (w : World) (H : Nd) (pre : List Nd) (k : Nat) (s6 s7 : Value) (wr : World) : Prop :=
  ∃ xs a ys, k ≤ 16 ∧ s7 = .int .i64 ((k : Int) - 1) ∧ H :: pre = xs ++ a :: ys ∧ k ≤ a.i.s ∧ s6 = .pointer (some ⟨a.b, 0, none⟩) ∧ Below w.heap.size w wr ∧
    Blk wr w.heap.size 74 (Sk.ways fun _ => none).toArray ∧ Blk wr (w.heap.size + 1) 74 (Sk.ways fun j => if k ≤ j then (lastOn j (H :: pre)).map Nd.b else none).toArray

def AheadIn (H : Nd) (pre : List Nd) (j : Nat) (n : Nat) (s6 : Value) (w1 wr : World) : Prop :=
  ∃ xs a ys, ys.length = n ∧ H :: pre = xs ++ a :: ys ∧ j < a.i.s ∧ s6 = .pointer (some ⟨a.b, 0, none⟩) ∧ wr = w1

theorem ahead_step {w wr : World} {H : Nd} {pre xs ys : List Nd} {a : Nd} {j : Nat} (hsplit : H :: pre = xs ++ a :: ys) (hj16 : j < 16) (hj : j ≤ a.i.s) (hlast : lastOn j (H :: pre) = some a)
    (hbel : Below w.heap.size w wr) (hB1 : Blk wr w.heap.size 74 (Sk.ways fun _ => none).toArray)
    (hB2 : Blk wr (w.heap.size + 1) 74 (Sk.ways fun k => if j + 1 ≤ k then (lastOn k (H :: pre)).map Nd.b else none).toArray) :
    AheadOut w H pre j (.pointer (some ⟨a.b, 0, none⟩)) (.int .i64 ((j : Int) - 1)) (wr.setCell ⟨w.heap.size + 1, j, none⟩ (.pointer (some ⟨a.b, 0, none⟩))) := by
  refine ⟨xs, a, ys, by omega, rfl, hsplit, hj, rfl, hbel.setCell (by simp) _, hB1.far (by simp) _, ?_⟩
  have := hB2.set_ j (ptr (some a.b))
  rw [List.setIfInBounds_toArray, ways_set] at this
  rw [ptr_some] at this
  rw [ways_congr (g := fun k => if k = j then some a.b else if j + 1 ≤ k then (lastOn k (H :: pre)).map Nd.b else none)]
  · exact this
  · intro k _
    by_cases h : k = j
    · subst h; simp [hlast]
    · rw [if_neg h]
      by_cases h' : j ≤ k
      · rw [if_pos h', if_pos (by omega)]
      · rw [if_neg h', if_neg (by omega)]

theorem arr_size : (Try.prog.info? 74).map (·.size) = some 16 := by kernel_rfl

set_option maxHeartbeats 800000 in
theorem ahead_any (L : Nat) (key : ByteArray) (H : Nd) (pre post : List Nd) (w : World)
    (hL : w.cell? ⟨L, 0, none⟩ = some (.pointer (some ⟨H.b, 0, none⟩)))
    (hm : Mem 76 w (H :: pre ++ post) (way (H :: pre ++ post))) (hnd : (blocks (H :: pre ++ post)).Nodup) (hs : H.i.s = 16)
    (hpre : ∀ y ∈ pre, kl y.i.k key = true) (hpost : ∀ y ∈ post, kl y.i.k key = false) :
    Calls Try.prog 50 #[.pointer (some ⟨L, 0, none⟩), .string key] w fun e w' =>
      e = .returned (.agg (Sk.ways fun j => (lastOn j (H :: pre)).map Nd.b).toArray) ∧ Below w.heap.size w w' := by
  have hLt : L < w.heap.size := World.block_lt_of_cell? w _ hL
  have HS := Lib.hid hs
  clear hs
  go_enter Try.func50, Try.ntmps50
  go_wp2
  go_loopg [6, 7] 16 (fun k s6 s7 wr => AheadOut w H pre k s6 s7 wr)
  case atStart =>
    refine ⟨[], H, pre, by omega, rfl, rfl, by rw [HS.out]; omega, rfl, ((Below.refl _ _).alloc (Nat.le_refl _) _).alloc (by simp) _, ?_, ?_⟩
    · exact heap_alloc2_old _ _ _
    · refine (heap_alloc2_new w _ _).trans ?_
      rw [ways_congr (g := fun _ => none) (fun j hj => by rw [if_neg (by omega)])]
      rfl
  case round =>
    obtain ⟨xs, a, ys, hk, rfl, hsplit, hlv, rfl, hbel, hB1, hB2⟩ := hrel
    have HSP := Lib.hid hsplit
    clear hsplit
    rcases gk with _ | j
    · obtain ⟨A, HA⟩ : ∃ A : Array Value, Hid (A = (Sk.ways fun j => (lastOn j (H :: pre)).map Nd.b).toArray) := ⟨_, rfl⟩
      have HB : Hid (Blk wr (w.heap.size + 1) 74 A) := by
        unfold Hid at HA
        rw [HA, ways_congr (g := fun j => if 0 ≤ j then (lastOn j (H :: pre)).map Nd.b else none) (fun j _ => by rw [if_pos (Nat.zero_le _)])]
        exact hB2
      have HS2 : Hid ((Try.prog.info? 74).map (·.size) = some A.size) := by
        unfold Hid at HA
        show _ = _
        rw [arr_size, HA, List.size_toArray, ways_length]
      have HS1 : Hid ((Sk.ways fun _ => none).toArray.size = A.size) := by
        unfold Hid at HA
        show _ = _
        rw [HA]; simp [ways_length]
      have HALL : Hid (A.all (·.oneCell') = true) := by
        unfold Hid at HA
        show _ = _
        rw [HA]; simp [Sk.ways, ptr, Value.oneCell']
      have HB1 := Lib.hid hB1
      have HBEL := Lib.hid hbel
      have e0 : ((0 : Nat) : Int) - 1 = -1 := rfl
      rw [e0]
      clear hB2 hB1 hk hlv hbel e0 hpre hpost hm hnd hL
      go_wp2_with (first
        | refine wpList_load_row rfl 74 _ rfl (w.heap.size + 1) rfl 74 A (0, 0) _ HB.out Try.underlying74 rfl HS2.out ?_
        | refine wpList_store_row rfl 74 _ _ rfl w.heap.size A rfl rfl 74 _ HB1.out HS2.out HS1.out HALL.out ?_)
      have hfin : Blk (wr.setRow w.heap.size A) w.heap.size 74 A := setRow_heap wr _ _ A 74 _ HB1.out
      refine bodyPost_ret (results_cell_row rfl _ _ w.heap.size 74 A (0, 0) _ rfl hfin Try.underlying74 rfl HS2.out) rfl ⟨by rw [HA.out], ?_⟩
      exact HBEL.out.trans ⟨rfl, rfl, rfl, by simp, fun k hk => setRow_other wr _ k A (by omega)⟩
    · have e1 : ((j + 1 : Nat) : Int) - 1 = (j : Int) := by omega
      rw [e1]
      clear e1
      obtain ⟨w1, rfl⟩ : ∃ w1 : World, w1 = wr := ⟨_, rfl⟩
      have hj16 : j < 16 := by omega
      have hj : j < a.i.s := hlv
      clear hlv
      go_wp2
      go_loopg [6] ys.length (fun n s6 wr => AheadIn H pre j n s6 w1 wr)
      case atStart => exact ⟨xs, a, ys, rfl, HSP.out, hj, rfl, rfl⟩
      case round =>
        clear hj HSP hk
        obtain ⟨xs, a, ys, hlen, hsplit, hj, rfl, rfl⟩ := hrel
        have hmr : Mem 76 wr (H :: pre ++ post) (way (H :: pre ++ post)) := hm.below hbel
        have ham : a ∈ H :: pre ++ post := by rw [hsplit]; simp
        have hway : way (H :: pre ++ post) a.b j = firstOn j (ys ++ post) := by
          rw [hsplit, List.append_assoc, List.cons_append] at hnd ⊢
          rw [way_at hnd, if_pos hj]
        have c1 := hmr.way ham hj16
        rw [hway, firstOn_append] at c1
        clear hway
        cases hf : firstOn j ys with
        | some b =>
          rw [hf] at c1
          obtain ⟨l1, y, l2, hys, rfl, hy2, hy3⟩ := firstOn_split hf
          have hyp : y ∈ H :: pre := by rw [hsplit, hys]; simp
          have hypre : y ∈ pre := by
            subst hys
            cases xs with
            | nil => simp at hsplit; rw [hsplit.2]; simp
            | cons x xs => simp at hsplit; rw [hsplit.2]; simp
          have c2 : wr.cell? ⟨y.b, 0, none⟩ = some (.string y.i.k) := hmr.key (List.mem_append_left _ hyp)
          have t1 : Op.bytesLess y.i.k.toList key.toList = true := hpre y hypre
          have HH := Lib.hid (And.intro hsplit (And.intro hys hlen))
          clear hsplit hys hlen hf hpre hpost hm hnd hmr ham
          simp only [ptr_some] at c1
          go_wp2
          go_roundg l2.length
          case measure => obtain ⟨_, h2, h3⟩ := HH.out; rw [← h3, h2]; simp; omega
          case rel =>
            obtain ⟨h1, h2, _⟩ := HH.out
            exact ⟨xs ++ a :: l1, y, l2, rfl, by rw [h1, h2]; simp, hy2, rfl, rfl⟩
        | none =>
          rw [hf] at c1
          simp only at c1
          have hlast : lastOn j (H :: pre) = some a := by rw [hsplit]; exact lastOn_of hj (firstOn_none hf)
          have hnext : AheadOut w H pre j (.pointer (some ⟨a.b, 0, none⟩)) (.int .i64 ((j : Int) - 1)) (wr.setCell ⟨w.heap.size + 1, j, none⟩ (.pointer (some ⟨a.b, 0, none⟩))) :=
            ahead_step hsplit hj16 (Nat.le_of_lt hj) hlast hbel hB1 hB2
          have c3 : wr.cell? ⟨w.heap.size + 1, j, none⟩ = some (.pointer none) := (hB2.cell j).trans (by rw [List.getElem?_toArray, ways_get _ hj16, if_neg (by omega)]; rfl)
          have f3 : wr.frozen? ⟨w.heap.size + 1, j, none⟩ = false := hB2.free j
          have HN := Lib.hid hnext
          cases hp : firstOn j post with
          | none =>
            rw [hp] at c1
            simp only [ptr_none] at c1
            clear hsplit hlen hf hp hlast hnext hpre hpost hm hnd hmr ham hB1 hB2 hbel
            go_wp2
            go_roundg j
            case measure => omega
            case rel => exact HN.out
          | some b =>
            rw [hp] at c1
            obtain ⟨l1, z, l2, hys, rfl, _, _⟩ := firstOn_split hp
            have c2 : wr.cell? ⟨z.b, 0, none⟩ = some (.string z.i.k) := hmr.key (by rw [hys]; simp)
            have t1 : Op.bytesLess z.i.k.toList key.toList = false := hpost z (by rw [hys]; simp)
            simp only [ptr_some] at c1
            clear hsplit hlen hf hp hlast hnext hpre hpost hm hnd hmr ham hB1 hB2 hbel hys
            go_wp2
            go_roundg j
            case measure => omega
            case rel => exact HN.out

/-- the same of a list that is -/
theorem ahead_is (L : Nat) (key : ByteArray) (H : Nd) (pre post : List Nd) (w : World) (h : Is w L H (pre ++ post))
    (hpre : ∀ y ∈ pre, kl y.i.k key = true) (hpost : ∀ y ∈ post, kl y.i.k key = false) :
    Calls Try.prog 50 #[.pointer (some ⟨L, 0, none⟩), .string key] w fun e w' =>
      e = .returned (.agg (Sk.ways fun j => (lastOn j (H :: pre)).map Nd.b).toArray) ∧ Below w.heap.size w w' :=
  ahead_any L key H pre post w (Is_cell h) (by simpa using h.mem) (by simpa using h.nd) h.hs hpre hpost

end SkS
end Go.Proofs.Ytoglklldclgcbaa
