/-
  Walks: 'First', 'Get', 'Steps', 'Len', 'New' of a list of string.
-/
import Derived.Test.YtoglklldclgcbaaSkSFind
namespace Go.Proofs.Ytoglklldclgcbaa
open Go.RowKit Sk
namespace SkS

set_option maxHeartbeats 400000 in
theorem New_any (w : World) :
    Calls Try.prog 33 #[] w fun e w' => ∃ H, e = .returned (.pointer (some ⟨w.heap.size + 1, 0, none⟩)) ∧ Below w.heap.size w w' ∧ Is w' (w.heap.size + 1) H [] ∧ H.b = w.heap.size ∧ w'.heap.size = w.heap.size + 2 := by
  go_enter Try.func33, Try.ntmps33
  go_wp2
  go_ret
  refine ⟨⟨w.heap.size, ⟨⟨#[]⟩, .string ⟨#[]⟩, 16⟩⟩, rfl, ((Below.refl _ _).alloc (Nat.le_refl _) _).alloc (by simp) _, ?_, rfl, by simp⟩
  refine ⟨heap_alloc2_new _ _ _, ?_, by simp, List.Pairwise.nil, fun _ h => (by cases h), rfl, rfl⟩
  intro x hx
  rcases List.mem_cons.1 hx with rfl | hx
  · refine (heap_alloc2_old _ _ _).trans ?_
    rw [node_congr (g := fun _ => none) _ (fun j _ => by simp [way, firstOn])]
    rfl
  · cases hx

set_option maxHeartbeats 400000 in
theorem Len_any (L : Nat) (H : Nd) (l : List Nd) (w : World) (h : Is w L H l) :
    Calls Try.prog 40 #[.pointer (some ⟨L, 0, none⟩)] w fun e w' => e = .returned (.int .i64 l.length) ∧ w = w' := by
  have hc := Is_cell h
  have hn : w.cell? ⟨L, 1, none⟩ = some (.int .i64 l.length) := h.hdr.cell 1
  clear h
  go_enter Try.func40, Try.ntmps40
  go_wp2_with fail
  refine (none_no _ _ _ hc).mono ?_
  rintro e w1 ⟨rfl, rfl⟩
  go_wp2
  go_ret
  exact ⟨rfl, rfl⟩

set_option maxHeartbeats 400000 in
theorem Get_some (L : Nat) (key : ByteArray) (H N : Nd) (l : List Nd) (w : World) (h : Is w L H l) (hl : seek ndk key l = some N) :
    Calls Try.prog 41 #[.pointer (some ⟨L, 0, none⟩), .string key] w fun e w' =>
      e = .returned (.tuple #[N.i.v, .bool true]) ∧ Below w.heap.size w w' := by
  have hval : w.cell? ⟨N.b, 1, none⟩ = some N.i.v := h.mem.val (List.mem_cons_of_mem _ (seek_mem ndk hl).1)
  have HC := Lib.hid (find_some L key H N l w h hl)
  have HV := Lib.hid hval
  have HLT := Lib.hid (World.block_lt_of_cell? w _ hval)
  clear h hl hval
  go_enter Try.func41, Try.ntmps41
  go_wp2_with fail
  refine HC.out.mono ?_
  rintro e w1 ⟨rfl, hb⟩
  have c1 : w1.cell? ⟨N.b, 1, none⟩ = some N.i.v := (hb.cell (p := ⟨N.b, 1, none⟩) HLT.out).trans HV.out
  have HB := Lib.hid hb
  clear hb
  go_wp2
  go_ret2
  exact ⟨rfl, HB.out⟩

set_option maxHeartbeats 400000 in
theorem Get_none (L : Nat) (key : ByteArray) (H : Nd) (l : List Nd) (w : World) (h : Is w L H l) (hl : seek ndk key l = none) :
    Calls Try.prog 41 #[.pointer (some ⟨L, 0, none⟩), .string key] w fun e w' =>
      e = .returned (.tuple #[.string ⟨#[]⟩, .bool false]) ∧ Below w.heap.size w w' := by
  have HC := Lib.hid (find_none L key H l w h hl)
  clear h hl
  go_enter Try.func41, Try.ntmps41
  go_wp2_with fail
  refine HC.out.mono ?_
  rintro e w1 ⟨rfl, hb⟩
  have HB := Lib.hid hb
  clear hb
  go_wp2
  go_ret2
  exact ⟨rfl, HB.out⟩

set_option maxHeartbeats 400000 in
theorem First_some (L : Nat) (key : ByteArray) (H N : Nd) (r l : List Nd) (w : World) (h : Is w L H l) (hl : hi ndk key l = N :: r) :
    Calls Try.prog 44 #[.pointer (some ⟨L, 0, none⟩), .string key] w fun e w' =>
      e = .returned (.tuple #[.string N.i.k, .bool true]) ∧ Below w.heap.size w w' := by
  have hsp := lo_hi ndk key l
  rw [hl] at hsp
  have h' : Is w L H (lo ndk key l ++ N :: r) := by rw [hsp]; exact h
  have habove := hi_above (key := key) ndk h.srt
  rw [hl] at habove
  have hc := Is_cell h
  obtain ⟨a, ha, hfront⟩ := h'.front
  have hix := index0 H (lo ndk key l) ha
  have HC := Lib.hid (ahead_is L key H (lo ndk key l) (N :: r) w h' (lo_below ndk) habove)
  have HLT := Lib.hid (World.block_lt_of_cell? w _ hfront)
  have hkey : w.cell? ⟨N.b, 0, none⟩ = some (.string N.i.k) := h'.mem.key (by simp)
  simp only [List.head?_cons, Option.map_some, ptr_some] at hfront
  have HF := Lib.hid hfront
  have HK := Lib.hid hkey
  have HLT2 := Lib.hid (World.block_lt_of_cell? w _ hkey)
  generalize hA : (Sk.ways fun j => (lastOn j (H :: lo ndk key l)).map Nd.b).toArray = A at *
  clear hfront ha h h' hA hkey habove hsp hl
  go_enter Try.func44, Try.ntmps44
  go_wp2_with fail
  refine (none_no _ _ _ hc).mono ?_
  rintro e w1 ⟨rfl, rfl⟩
  go_wp2_with fail
  refine HC.out.mono ?_
  rintro e w1 ⟨rfl, hb⟩
  have c1 : w1.cell? ⟨a.b, 3, none⟩ = some (.pointer (some ⟨N.b, 0, none⟩)) := (hb.cell (p := ⟨a.b, 3, none⟩) HLT.out).trans HF.out
  have c2 : w1.cell? ⟨N.b, 0, none⟩ = some (.string N.i.k) := (hb.cell (p := ⟨N.b, 0, none⟩) HLT2.out).trans HK.out
  have HB := Lib.hid hb
  clear hb
  go_wp2
  go_ret2
  exact ⟨rfl, HB.out⟩

set_option maxHeartbeats 400000 in
theorem First_none (L : Nat) (key : ByteArray) (H : Nd) (l : List Nd) (w : World) (h : Is w L H l) (hl : hi ndk key l = []) :
    Calls Try.prog 44 #[.pointer (some ⟨L, 0, none⟩), .string key] w fun e w' =>
      e = .returned (.tuple #[.string ⟨#[]⟩, .bool false]) ∧ Below w.heap.size w w' := by
  have hsp := lo_hi ndk key l
  rw [hl] at hsp
  have h' : Is w L H (lo ndk key l ++ []) := by rw [hsp]; exact h
  have hc := Is_cell h
  obtain ⟨a, ha, hfront⟩ := h'.front
  have hix := index0 H (lo ndk key l) ha
  have HC := Lib.hid (ahead_is L key H (lo ndk key l) [] w h' (lo_below ndk) (fun _ hz => by cases hz))
  have HLT := Lib.hid (World.block_lt_of_cell? w _ hfront)
  simp only [List.head?_nil, Option.map_none, ptr_none] at hfront
  have HF := Lib.hid hfront
  generalize hA : (Sk.ways fun j => (lastOn j (H :: lo ndk key l)).map Nd.b).toArray = A at *
  clear hfront ha h h' hA hsp hl
  go_enter Try.func44, Try.ntmps44
  go_wp2_with fail
  refine (none_no _ _ _ hc).mono ?_
  rintro e w1 ⟨rfl, rfl⟩
  go_wp2_with fail
  refine HC.out.mono ?_
  rintro e w1 ⟨rfl, hb⟩
  have c1 : w1.cell? ⟨a.b, 3, none⟩ = some (.pointer none) := (hb.cell (p := ⟨a.b, 3, none⟩) HLT.out).trans HF.out
  have HB := Lib.hid hb
  clear hb
  go_wp2
  go_ret2
  exact ⟨rfl, HB.out⟩

end SkS
end Go.Proofs.Ytoglklldclgcbaa
