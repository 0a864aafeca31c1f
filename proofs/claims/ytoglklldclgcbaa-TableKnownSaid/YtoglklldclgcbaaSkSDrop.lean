/-
  Walk: 'Drop' of a list of string.
-/
import Derived.Test.YtoglklldclgcbaaSkSReads
import Derived.RegionTactic
import Derived.ChangeAlike
namespace Go.Proofs.Ytoglklldclgcbaa
open Go.RowKit Sk
namespace SkS

theorem node_size' : (Try.prog.info? 76).map (·.size) = some (18 + 1) := by kernel_rfl

set_option maxHeartbeats 400000 in
theorem Drop_none (L : Nat) (key : ByteArray) (H : Nd) (l : List Nd) (w : World) (h : Is w L H l) (hl : seek ndk key l = none) :
    Calls Try.prog 36 #[.pointer (some ⟨L, 0, none⟩), .string key] w fun e w' =>
      e = .returned (.bool false) ∧ Below w.heap.size w w' := by
  have HC := Lib.hid (find_none L key H l w h hl)
  clear h hl
  go_enter Try.func36, Try.ntmps36
  go_wp2_with fail
  refine HC.out.mono ?_
  rintro e w1 ⟨rfl, hb⟩
  have HB := Lib.hid hb
  clear hb
  go_wp2
  go_ret
  exact ⟨rfl, HB.out⟩

def DropRel (w1 : World) (L : Nat) (H N : Nd) (pre post : List Nd) (cnt : Nat) (s : Value) (wr : World) : Prop :=
  ∃ i, i + cnt = 16 ∧ s = .int .i64 (i : Int) ∧ Blk wr L 78 #[.pointer (some ⟨H.b, 0, none⟩), .int .i64 (pre ++ N :: post).length] ∧
    Mem 76 wr ((H :: pre) ++ post) (fun b j => if j < i then way ((H :: pre) ++ post) b j else way ((H :: pre) ++ N :: post) b j) ∧
    Blk wr N.b 76 (nodeCells N.i (way ((H :: pre) ++ N :: post) N.b)) ∧ Turns (· ∈ blocks (H :: pre)) w1 wr

theorem DropRel_drew {w1 : World} {L : Nat} {H N : Nd} {pre post : List Nd} {cnt : Nat} {s : Value} {wr : World} (h : DropRel w1 L H N pre post cnt s wr) : DropRel w1 L H N pre post cnt s wr.drew := by
  obtain ⟨i, h1, h2, h3, h4, h5, h6⟩ := h
  exact ⟨i, h1, h2, h3, h4, h5, h6.drew⟩

theorem drop_done {w3 wr : World} {L : Nat} {H N : Nd} {pre post : List Nd} {n : Nat} (hI3 : Is w3 L H (pre ++ N :: post)) (hhdr : Blk wr L 78 #[.pointer (some ⟨H.b, 0, none⟩), .int .i64 ((n : Int) + 1)])
    (hn : n = (pre ++ post).length) (hmem : Mem 76 wr ((H :: pre) ++ post) (fun b j => if j < 16 then way ((H :: pre) ++ post) b j else way ((H :: pre) ++ N :: post) b j)) :
    Is (wr.setCell ⟨L, 1, none⟩ (.int .i64 (n : Int))) L H (pre ++ post) := by
  have hnd := hI3.nd
  rw [← List.cons_append] at hnd
  have hnd' := (notin_of_mid hnd).2
  have hLn : L ∉ blocks ((H :: pre) ++ post) := by
    intro hm
    obtain ⟨x, hx, he⟩ := List.mem_map.1 hm
    have h1 := hmem x hx
    rw [he] at h1
    unfold Blk at h1 hhdr
    rw [hhdr] at h1
    injection h1 with h1
    injection h1 with _ h1
    exact absurd h1 (by decide)
  refine ⟨?_, ?_, by simpa using hnd', ?_, ?_, hI3.hs, hI3.hk⟩
  · have := hhdr.set_ 1 (.int .i64 (n : Int))
    rw [← hn]
    simpa using this
  · have := (hmem.congr (g := way ((H :: pre) ++ post)) (fun x _ j hj => by rw [if_pos hj])).far (p := ⟨L, 1, none⟩) hLn (.int .i64 (n : Int))
    simpa using this
  · have h := hI3.srt
    rw [List.pairwise_append] at h ⊢
    exact ⟨h.1, (List.pairwise_cons.1 h.2.1).2, fun x hx y hy => h.2.2 x hx y (List.mem_cons_of_mem _ hy)⟩
  · intro x hx
    rcases List.mem_append.1 hx with hx | hx
    · exact hI3.lv x (List.mem_append_left _ hx)
    · exact hI3.lv x (List.mem_append_right _ (List.mem_cons_of_mem _ hx))

set_option maxHeartbeats 1000000 in
theorem Drop_some (L : Nat) (H N : Nd) (l pre post : List Nd) (key : ByteArray) (w : World) (h : Is w L H l) (hl : l = pre ++ N :: post)
    (hlook : seek ndk key l = some N) (hpre : ∀ y ∈ pre, kl y.i.k key = true) (hpost : ∀ y ∈ N :: post, kl y.i.k key = false) (hlen : l.length ≤ 1000000) :
    Calls Try.prog 36 #[.pointer (some ⟨L, 0, none⟩), .string key] w fun e w' => e = .returned (.bool true) ∧
      Is w' L H (pre ++ post) ∧ Turns (· ∈ own L H pre) w w' := by
  have HC := Lib.hid (find_some L key H N l w h hlook)
  have HI := Lib.hid h
  have HLE := Lib.hid hl
  have HLEN := Lib.hid hlen
  clear h hlook hl hlen
  go_enter Try.func36, Try.ntmps36
  go_wp2_with fail
  refine HC.out.mono ?_
  rintro e w1 ⟨rfl, hb⟩
  have hI1 : Is w1 L H (pre ++ N :: post) := by rw [← HLE.out]; exact HI.out.keep (S := fun _ => False) (Turns.of_below hb) (fun _ _ h => h)
  have HB := Lib.hid hb
  clear hb
  have HI1 := Lib.hid hI1
  clear hI1
  go_wp2_with fail
  refine (ahead_is L key H pre (N :: post) _ HI1.out hpre hpost).mono ?_
  rintro e w3 ⟨rfl, hb3⟩
  have hI3 : Is w3 L H (pre ++ N :: post) := HI1.out.keep (S := fun _ => False) (Turns.of_below hb3) (fun _ _ h => h)
  have hnd := hI3.nd
  rw [← List.cons_append] at hnd
  have hrel0 : DropRel w3 L H N pre post 16 (.int .i64 0) w3 := by
    refine ⟨0, rfl, rfl, hI3.hdr, ?_, hI3.mem N (by simp), Turns.refl _ _⟩
    intro x hx
    have := hI3.mem x (by
      simp only [List.cons_append, List.mem_cons, List.mem_append] at hx ⊢
      rcases hx with hx | hx | hx
      · exact .inl hx
      · exact .inr (.inl hx)
      · exact .inr (.inr (.inr hx)))
    simpa using this
  have HR0 := Lib.hid hrel0
  have HND := Lib.hid hnd
  have HB3 := Lib.hid hb3
  have HI3 := Lib.hid hI3
  clear hrel0 hnd hb3 hI3 hpost hpre
  generalize hA : (Sk.ways fun j => (lastOn j (H :: pre)).map Nd.b).toArray = A
  have HA := Lib.hid hA
  clear hA
  go_wp2_with fail
  go_loopg [16] 16 (fun cnt s wr => DropRel w3 L H N pre post cnt s wr)
  case atStart => exact HR0.out
  case round =>
    obtain ⟨i, hi16, rfl, hhdr, hmem, hblk, hturns⟩ := hrel
    by_cases hlt : i < 16
    · obtain ⟨a, ha⟩ := lastOn_head (j := i) H (by rw [HI3.out.hs]; exact hlt) pre
      have hix : ∀ w, (Instr.index 74 (.agg A) (.int .i64 i)).run Try.prog w = .ok (.pointer (some ⟨a.b, 0, none⟩)) w := fun w => by
        have := run_index (fun j => (lastOn j (H :: pre)).map Nd.b) i hlt w
        simp only [ha, Option.map_some, ptr_some] at this
        rw [← HA.out]
        exact this
      have ham : a ∈ (H :: pre) ++ post := List.mem_append_left _ (lastOn_mem ha)
      have c1 : wr.cell? ⟨a.b, 3 + i, none⟩ = some (ptr (firstOn i (N :: post))) := by
        have := hmem.way ham hlt
        rw [if_neg (Nat.lt_irrefl i), way_last HND.out ha] at this
        exact this
      have f1 := hmem.free ham (3 + i)
      have HI16 := Lib.hid hi16
      by_cases his : i < N.i.s
      · have c2 : wr.cell? ⟨N.b, 3 + i, none⟩ = some (ptr (firstOn i post)) := by
          have := (hblk.cell (3 + i)).trans (node_way _ _ hlt)
          rw [way_at HND.out, if_pos his] at this
          exact this
        simp only [firstOn, his, if_true, ptr_some] at c1
        have hlink := hmem.unlink HND.out ha
        have hne : a.b ≠ N.b := fun e => (notin_of_mid HND.out).1 (e ▸ mem_blocks ham)
        have heq := fun W => eql_ptr_same (tp := 73) N.b Try.underlying73 (by rw [node_size']; rfl) W
        obtain ⟨q, hq⟩ : ∃ q, q = firstOn i post := ⟨_, rfl⟩
        have HQ := Lib.hid hq
        rw [← hq] at c2 hlink
        have hnext : DropRel w3 L H N pre post (15 - i) (.int .i64 ((i : Int) + 1)) (wr.setCell ⟨a.b, 3 + i, none⟩ (.pointer (q.map fun b => ⟨b, 0, none⟩))) := by
          refine ⟨i + 1, by omega, by simp, ?_, hlink, hblk.far (p := ⟨a.b, 3 + i, none⟩) (Ne.symm hne) _, ?_⟩
          · have hL : L ≠ a.b := by
              intro e
              have h1 := hmem a ham
              rw [← e] at h1
              unfold Blk at h1 hhdr
              rw [hhdr] at h1
              injection h1 with h1
              injection h1 with _ h1
              exact absurd h1 (by decide)
            exact hhdr.far (p := ⟨a.b, 3 + i, none⟩) hL _
          · exact hturns.setCell (p := ⟨a.b, 3 + i, none⟩) (fun _ => mem_blocks (lastOn_mem ha)) _
        have HX := Lib.hid hnext
        have d2 : wr.cell? ⟨N.b, 3 + i, none⟩ = some (.pointer (q.map fun b => ⟨b, 0, none⟩)) := c2
        clear ha ham c2 hmem hlink hq hnext hhdr hturns his hblk hi16
        go_wp2
        go_region
        all_goals
          go_wp2
          go_roundg (15 - i)
          case measure => have := HI16.out; omega
          case rel => exact DropRel_drew HX.out
      · have hnext : DropRel w3 L H N pre post (15 - i) (.int .i64 ((i : Int) + 1)) wr :=
          ⟨i + 1, by omega, by simp, hhdr, hmem.unlink' HND.out his, hblk, hturns⟩
        have HX := Lib.hid hnext
        simp only [firstOn, his, if_false] at c1
        cases hf : firstOn i post with
        | none =>
          rw [hf] at c1
          simp only [ptr_none] at c1
          have heq := fun W => eql_nil_ptr (tp := 73) N.b Try.underlying73 W
          clear ha ham hmem hnext hhdr hturns his hblk hi16 hf
          go_wp2
          go_roundg (15 - i)
          case measure => have := HI16.out; omega
          case rel => exact HX.out
        | some z =>
          rw [hf] at c1
          simp only [ptr_some] at c1
          have hzm := firstOn_mem hf
          obtain ⟨x, hx, hxz⟩ := List.mem_map.1 hzm
          have hbx := hmem x (List.mem_append_right _ hx)
          rw [hxz] at hbx
          have hzN : z ≠ N.b := fun e => (notin_of_mid HND.out).1 (by rw [← e, blocks_append]; exact List.mem_append_right _ hzm)
          have HE := Lib.hid (And.intro hzN (And.intro hbx hblk))
          clear ha ham hmem hnext hhdr hturns his hblk hi16 hf hzm hx hxz hbx hzN
          go_wp2_with (refine wpList_eql_other rfl _ _ _ (.tmp 25) (.tmp 26) rfl (b1 := z) (b2 := N.b) rfl rfl Try.underlying73 node_size' HE.out.1 HE.out.2.1 HE.out.2.2 ?_)
          go_roundg (15 - i)
          case measure => have := HI16.out; omega
          case rel => exact HX.out
    · have hi : i = 16 := by omega
      subst hi
      obtain ⟨n, hn⟩ : ∃ n, n = (pre ++ post).length := ⟨_, rfl⟩
      have hn1 : (((pre ++ N :: post).length : Nat) : Int) = (n : Int) + 1 := by rw [hn]; simp; omega
      have hnb : n ≤ 1000000 := by
        have := HLEN.out
        rw [HLE.out] at this
        omega
      rw [hn1] at hhdr
      have hdone := drop_done HI3.out hhdr hn hmem
      have hturn : Turns (· ∈ own L H pre) w (wr.setCell ⟨L, 1, none⟩ (.int .i64 (n : Int))) := by
        have h1 : Turns (· ∈ own L H pre) w w3 := (Turns.of_below HB.out).trans (S' := fun _ => False) (Turns.of_below HB3.out) (fun _ _ h => h.elim)
        have h2 := h1.trans hturns (fun k hk hm => by unfold own; exact List.mem_cons_of_mem _ hm)
        exact h2.setCell (p := ⟨L, 1, none⟩) (fun _ => by simp [own]) _
      have HD := Lib.hid (And.intro hdone hturn)
      have c1 : wr.cell? ⟨L, 1, none⟩ = some (.int .i64 ((n : Int) + 1)) := hhdr.cell 1
      have f1 : wr.frozen? ⟨L, 1, none⟩ = false := hhdr.free 1
      clear hhdr hmem hdone hn hturns hturn hblk hn1
      go_wp2
      go_ret
      exact ⟨rfl, HD.out.1, HD.out.2⟩

end SkS
end Go.Proofs.Ytoglklldclgcbaa
