/-
  Walks: 'find', 'First', 'Get', 'Steps', 'Len', 'New' of a list of string.
-/
import Derived.Test.YtoglklldclgcbaaSkSAhead
namespace Go.Proofs.Ytoglklldclgcbaa
open Go.RowKit Sk
namespace SkS

theorem ptr_size : (Try.prog.info? 73).map (·.size) = some 1 := by kernel_rfl

theorem run_index (f : Nat → Option Nat) (j : Nat) (hj : j < 16) (w : World) :
    (Instr.index 74 (.agg (Sk.ways f).toArray) (.int .i64 j)).run Try.prog w = .ok (ptr (f j)) w :=
  run_index_arr Try.underlying74 Try.underlying73 ptr_size _ _ j hj _ (by rw [List.getElem?_toArray, ways_get f hj]) w

theorem index0 (H : Nd) (pre : List Nd) {a : Nd} (ha : lastOn 0 (H :: pre) = some a) (w : World) :
    (Instr.index 74 (.agg (Sk.ways fun j => (lastOn j (H :: pre)).map Nd.b).toArray) (.int .i64 0)).run Try.prog w = .ok (.pointer (some ⟨a.b, 0, none⟩)) w := by
  have h := run_index (fun j => (lastOn j (H :: pre)).map Nd.b) 0 (by omega) w
  simp only [ha, Option.map_some, ptr_some] at h
  exact h

set_option maxHeartbeats 400000 in
theorem find_yes (L : Nat) (key : ByteArray) (H N : Nd) (pre post : List Nd) (w : World) (h : Is w L H (pre ++ N :: post))
    (hpre : ∀ y ∈ pre, kl y.i.k key = true) (hpost : ∀ y ∈ N :: post, kl y.i.k key = false) (hk : N.i.k = key) :
    Calls Try.prog 49 #[.pointer (some ⟨L, 0, none⟩), .string key] w fun e w' =>
      e = .returned (.pointer (some ⟨N.b, 0, none⟩)) ∧ Below w.heap.size w w' := by
  have hc := Is_cell h
  obtain ⟨a, ha, hfront⟩ := h.front
  have hix := index0 H pre ha
  have hkey : w.cell? ⟨N.b, 0, none⟩ = some (.string N.i.k) := h.mem.key (by simp)
  rw [hk] at hkey
  have hcall := ahead_is L key H pre (N :: post) w h hpre hpost
  simp only [List.head?_cons, Option.map_some, ptr_some] at hfront
  have e0 : (key.toList == key.toList) = true := by simp
  have HC := Lib.hid hcall
  have HF := Lib.hid hfront
  have HK := Lib.hid hkey
  have H1 := Lib.hid ha
  have HLT := Lib.hid (World.block_lt_of_cell? w _ hfront)
  have HLT2 := Lib.hid (World.block_lt_of_cell? w _ hkey)
  generalize hA : (Sk.ways fun j => (lastOn j (H :: pre)).map Nd.b).toArray = A at *
  clear hcall hfront hkey hk ha hpre hpost h hA
  go_enter Try.func49, Try.ntmps49
  go_wp2_with fail
  refine (none_no _ _ _ hc).mono ?_
  rintro e w1 ⟨rfl, rfl⟩
  go_wp2_with fail
  refine HC.out.mono ?_
  rintro e w1 ⟨rfl, hb⟩
  have c1 : w1.cell? ⟨a.b, 3, none⟩ = some (.pointer (some ⟨N.b, 0, none⟩)) := (hb.cell (p := ⟨a.b, 3, none⟩) HLT.out).trans HF.out
  have c2 : w1.cell? ⟨N.b, 0, none⟩ = some (.string key) := (hb.cell (p := ⟨N.b, 0, none⟩) HLT2.out).trans HK.out
  have HB := Lib.hid hb
  clear hb
  go_wp2
  go_ret
  exact ⟨rfl, HB.out⟩

set_option maxHeartbeats 400000 in
theorem find_no (L : Nat) (key : ByteArray) (H : Nd) (pre post : List Nd) (w : World) (h : Is w L H (pre ++ post))
    (hpre : ∀ y ∈ pre, kl y.i.k key = true) (hpost : ∀ y ∈ post, kl y.i.k key = false) (hk : ∀ z r, post = z :: r → z.i.k ≠ key) :
    Calls Try.prog 49 #[.pointer (some ⟨L, 0, none⟩), .string key] w fun e w' =>
      e = .returned (.pointer none) ∧ Below w.heap.size w w' := by
  have hc := Is_cell h
  obtain ⟨a, ha, hfront⟩ := h.front
  have hix := index0 H pre ha
  have HC := Lib.hid (ahead_is L key H pre post w h hpre hpost)
  have HLT := Lib.hid (World.block_lt_of_cell? w _ hfront)
  cases post with
  | nil =>
    simp only [List.head?_nil, Option.map_none, ptr_none] at hfront
    have HF := Lib.hid hfront
    generalize hA : (Sk.ways fun j => (lastOn j (H :: pre)).map Nd.b).toArray = A at *
    clear hfront ha hpre hpost h hA hk
    go_enter Try.func49, Try.ntmps49
    go_wp2_with fail
    refine (none_no _ _ _ hc).mono ?_
    rintro e w1 ⟨rfl, rfl⟩
    go_wp2_with fail
    refine HC.out.mono ?_
    rintro e w1 ⟨rfl, hb⟩
    have c1 : w1.cell? ⟨a.b, 3, none⟩ = some (.pointer none) := (hb.cell (p := ⟨a.b, 3, none⟩) HLT.out).trans HF.out
    have HB := Lib.hid hb
    clear hb
    go_wp2
    go_ret
    exact ⟨rfl, HB.out⟩
  | cons N r =>
    have hkey : w.cell? ⟨N.b, 0, none⟩ = some (.string N.i.k) := h.mem.key (by simp)
    simp only [List.head?_cons, Option.map_some, ptr_some] at hfront
    have e0 : (N.i.k.toList == key.toList) = false := keq_false (hk N r rfl)
    have HF := Lib.hid hfront
    have HK := Lib.hid hkey
    have HLT2 := Lib.hid (World.block_lt_of_cell? w _ hkey)
    generalize hA : (Sk.ways fun j => (lastOn j (H :: pre)).map Nd.b).toArray = A at *
    clear hfront ha hpre hpost h hA hk hkey
    go_enter Try.func49, Try.ntmps49
    go_wp2_with fail
    refine (none_no _ _ _ hc).mono ?_
    rintro e w1 ⟨rfl, rfl⟩
    go_wp2_with fail
    refine HC.out.mono ?_
    rintro e w1 ⟨rfl, hb⟩
    have c1 : w1.cell? ⟨a.b, 3, none⟩ = some (.pointer (some ⟨N.b, 0, none⟩)) := (hb.cell (p := ⟨a.b, 3, none⟩) HLT.out).trans HF.out
    have c2 : w1.cell? ⟨N.b, 0, none⟩ = some (.string N.i.k) := (hb.cell (p := ⟨N.b, 0, none⟩) HLT2.out).trans HK.out
    have HB := Lib.hid hb
    clear hb
    go_wp2
    go_ret
    exact ⟨rfl, HB.out⟩

set_option maxHeartbeats 400000 in
theorem find_nil (key : ByteArray) (w : World) :
    Calls Try.prog 49 #[.pointer none, .string key] w fun e w' => e = .returned (.pointer none) ∧ w = w' := by
  go_enter Try.func49, Try.ntmps49
  go_wp2_with fail
  refine (none_nil _).mono ?_
  rintro e w1 ⟨rfl, rfl⟩
  go_wp2
  go_ret
  exact ⟨rfl, rfl⟩

set_option maxHeartbeats 400000 in
theorem find_bare (b : Nat) (key : ByteArray) (w : World) (hc : w.cell? ⟨b, 0, none⟩ = some (.pointer none)) :
    Calls Try.prog 49 #[.pointer (some ⟨b, 0, none⟩), .string key] w fun e w' => e = .returned (.pointer none) ∧ w = w' := by
  go_enter Try.func49, Try.ntmps49
  go_wp2_with fail
  refine (none_bare _ _ hc).mono ?_
  rintro e w1 ⟨rfl, rfl⟩
  go_wp2
  go_ret
  exact ⟨rfl, rfl⟩

theorem find_some (L : Nat) (key : ByteArray) (H N : Nd) (l : List Nd) (w : World) (h : Is w L H l) (hl : seek ndk key l = some N) :
    Calls Try.prog 49 #[.pointer (some ⟨L, 0, none⟩), .string key] w fun e w' =>
      e = .returned (.pointer (some ⟨N.b, 0, none⟩)) ∧ Below w.heap.size w w' := by
  obtain ⟨r, hr, hk⟩ := seek_some ndk hl
  have hsp := lo_hi ndk key l
  rw [hr] at hsp
  refine find_yes L key H N (lo ndk key l) r w (by rw [hsp]; exact h) (lo_below ndk) ?_ hk
  rw [← hr]
  exact hi_above ndk h.srt

theorem find_none (L : Nat) (key : ByteArray) (H : Nd) (l : List Nd) (w : World) (h : Is w L H l) (hl : seek ndk key l = none) :
    Calls Try.prog 49 #[.pointer (some ⟨L, 0, none⟩), .string key] w fun e w' =>
      e = .returned (.pointer none) ∧ Below w.heap.size w w' :=
  find_no L key H (lo ndk key l) (hi ndk key l) w (by rw [lo_hi]; exact h) (lo_below ndk) (hi_above ndk h.srt) (seek_none ndk hl)

end SkS
end Go.Proofs.Ytoglklldclgcbaa
