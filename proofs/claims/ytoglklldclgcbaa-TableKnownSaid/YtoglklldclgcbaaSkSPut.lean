/-
  Walk: 'Put' of a list of string.
-/
import Derived.Test.YtoglklldclgcbaaSkSReads
import Derived.RegionTactic
import Derived.ChangeAlike
namespace Go.Proofs.Ytoglklldclgcbaa
open Go.RowKit Sk
namespace SkS

set_option maxHeartbeats 400000 in
theorem Put_out (L : Nat) (H : Nd) (l : List Nd) (key : ByteArray) (vs : ByteArray) (s : Int) (w : World) (h : Is w L H l) (hs : s < 1 ∨ 16 < s) :
    Calls Try.prog 37 #[.pointer (some ⟨L, 0, none⟩), .string key, .string vs, .int .i64 s] w fun e w' => e = .returned (.bool false) ∧ w = w' := by
  have hc := Is_cell h
  clear h
  by_cases h1 : s < 1
  · clear hs
    go_enter Try.func37, Try.ntmps37
    go_wp2_with fail
    refine (none_no _ _ _ hc).mono ?_
    rintro e w1 ⟨rfl, rfl⟩
    go_wp2
    go_ret
    exact ⟨rfl, rfl⟩
  · have h2 : 16 < s := by omega
    clear hs
    go_enter Try.func37, Try.ntmps37
    go_wp2_with fail
    refine (none_no _ _ _ hc).mono ?_
    rintro e w1 ⟨rfl, rfl⟩
    go_wp2
    go_ret
    exact ⟨rfl, rfl⟩

theorem Is_setVal {w : World} {L : Nat} {H N : Nd} {pre post : List Nd} (h : Is w L H (pre ++ N :: post)) (v : Value) :
    Is (w.setCell ⟨N.b, 1, none⟩ v) L H (pre ++ N.put v :: post) := by
  have hNm : N ∈ H :: (pre ++ N :: post) := by simp
  have hLN : L ≠ N.b := by
    intro e
    have h1 := h.hdr
    have h2 := h.mem N hNm
    unfold Blk at h1 h2
    rw [e, h2] at h1
    injection h1 with h1
    injection h1 with _ h1
    exact absurd h1 (by decide)
  have hb : blocks (H :: (pre ++ N.put v :: post)) = blocks (H :: (pre ++ N :: post)) := by simp
  have hway : ∀ b j, way (H :: (pre ++ N.put v :: post)) b j = way (H :: (pre ++ N :: post)) b j := way_congr (by simp)
  refine ⟨?_, ?_, by rw [hb]; exact h.nd, ?_, ?_, h.hs, h.hk⟩
  · have := h.hdr.far (p := ⟨N.b, 1, none⟩) hLN v
    simpa using this
  · intro x hx
    have e : x = N.put v ∨ (x ∈ H :: (pre ++ N :: post) ∧ x.b ≠ N.b) := by
      have hnd := h.nd
      have e2 : H :: (pre ++ N :: post) = (H :: pre) ++ N :: post := by simp
      rw [e2, blocks_append, List.nodup_append, blocks_cons] at hnd
      have hx' : x ∈ H :: pre ∨ x = N.put v ∨ x ∈ post := by
        simp only [List.mem_cons, List.mem_append] at hx ⊢
        rcases hx with hx | hx | hx | hx
        · exact .inl (.inl hx)
        · exact .inl (.inr hx)
        · exact .inr (.inl hx)
        · exact .inr (.inr hx)
      rcases hx' with hx' | hx' | hx'
      · exact .inr ⟨by rw [e2]; exact List.mem_append_left _ hx', hnd.2.2 _ (mem_blocks hx') _ (by simp)⟩
      · exact .inl hx'
      · exact .inr ⟨by simp [hx'], fun e => (List.nodup_cons.1 hnd.2.1).1 (e ▸ mem_blocks hx')⟩
    rcases e with rfl | ⟨hx, hne⟩
    · have := (h.mem N hNm).set_ 1 v
      rw [node_setVal] at this
      show Blk _ N.b _ (nodeCells _ (way _ N.b))
      rw [show (way (H :: (pre ++ N.put v :: post)) N.b) = way (H :: (pre ++ N :: post)) N.b from funext (hway _)]
      exact this
    · rw [show way (H :: (pre ++ N.put v :: post)) x.b = way (H :: (pre ++ N :: post)) x.b from funext (hway _)]
      exact (h.mem x hx).far (p := ⟨N.b, 1, none⟩) hne v
  · have hsrt := h.srt
    rw [List.pairwise_append, List.pairwise_cons] at hsrt ⊢
    refine ⟨hsrt.1, ⟨hsrt.2.1.1, hsrt.2.1.2⟩, fun a ha b hb => ?_⟩
    rcases List.mem_cons.1 hb with rfl | hb
    · exact hsrt.2.2 a ha N (by simp)
    · exact hsrt.2.2 a ha b (List.mem_cons_of_mem _ hb)
  · intro x hx
    rcases List.mem_append.1 hx with hx | hx
    · exact h.lv x (List.mem_append_left _ hx)
    · rcases List.mem_cons.1 hx with rfl | hx
      · exact h.lv N (by simp)
      · exact h.lv x (by simp [hx])

set_option maxHeartbeats 400000 in
theorem Put_old (L : Nat) (H N : Nd) (l pre post : List Nd) (key : ByteArray) (vs : ByteArray) (s : Nat) (w : World) (h : Is w L H l) (hs1 : 1 ≤ s) (hs2 : s ≤ 16) (hl : l = pre ++ N :: post)
    (hlook : seek ndk key l = some N) :
    Calls Try.prog 37 #[.pointer (some ⟨L, 0, none⟩), .string key, .string vs, .int .i64 s] w fun e w' => e = .returned (.bool true) ∧
      Is w' L H (pre ++ N.put (.string vs) :: post) ∧ Turns (· = N.b) w w' := by
  have hc := Is_cell h
  have HC := Lib.hid (find_some L key H N l w h hlook)
  have HI := Lib.hid h
  have HLE := Lib.hid hl
  have b1 : ¬ ((s : Int) < 1) := by omega
  have b2 : ¬ (16 < (s : Int)) := by omega
  clear h hlook hl
  go_enter Try.func37, Try.ntmps37
  go_wp2_with fail
  refine (none_no _ _ _ hc).mono ?_
  rintro e w1 ⟨rfl, rfl⟩
  go_wp2_with fail
  refine HC.out.mono ?_
  rintro e w1 ⟨rfl, hb⟩
  have hI1 : Is w1 L H l := HI.out.keep (S := fun _ => False) (Turns.of_below hb) (fun _ _ h => h)
  rw [HLE.out] at hI1
  have c1 : w1.cell? ⟨N.b, 1, none⟩ = some N.i.v := hI1.mem.val (by simp)
  have f1 : w1.frozen? ⟨N.b, 1, none⟩ = false := hI1.mem.free (by simp) 1
  have HE := Lib.hid (And.intro (Is_setVal hI1 (.string vs)) hb)
  clear hI1 hb
  go_wp2
  go_ret
  exact ⟨rfl, HE.out.1, Turns.setCell (S := (· = N.b)) (p := ⟨N.b, 1, none⟩) (Turns.of_below HE.out.2) (fun _ => rfl) _⟩

end SkS
end Go.Proofs.Ytoglklldclgcbaa
