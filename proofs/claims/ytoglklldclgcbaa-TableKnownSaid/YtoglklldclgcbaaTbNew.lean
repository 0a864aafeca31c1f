/-
  A table in memory; walks: New, none, Len, Get.
-/
import Derived.Test.YtoglklldclgcbaaTbList
import Derived.Test.YtoglklldclgcbaaTbDraw
namespace Go.Proofs.Ytoglklldclgcbaa
open Go.RowKit Sk
namespace Tb

/-- the value of a draw whose variable lies at x -/
abbrev Dr (x : Nat) : Value := .func (.func 48) #[] #[.pointer (some ⟨x, 0, none⟩)]
abbrev TP (t : Nat) : Value := .pointer (some ⟨t, 0, none⟩)

set_option maxHeartbeats 400000 in
theorem drawing_any (sd : Int) (w : World) :
    Calls Try.prog 34 #[.int .i64 sd] w fun e w' => ∃ a, e = .returned (Dr w.heap.size) ∧ w' = w.alloc (.cells #[.int .u64 a] 79) := by
  go_enter Try.func34, Try.ntmps34
  go_wp2
  go_ret
  exact ⟨_, rfl, rfl⟩

/-- the table at t: its list, its draw's variable; all its blocks are of the set P -/
structure TabIs (P : Nat → Prop) (w : World) (t L x : Nat) (sd : Int) (rows : List Row) : Prop where
  hdr : Blk w t 65 #[.pointer (some ⟨L, 0, none⟩), Dr x, .int .i64 sd]
  var : ∃ a, Blk w x 79 #[.int .u64 a]
  li : Li P w L rows
  pt : P t
  px : P x
def Tab (P : Nat → Prop) (w : World) (t : Nat) (rows : List Row) : Prop := ∃ L x sd, TabIs P w t L x sd rows
abbrev Tks : List TypeId := [79, 78, 76]

section
variable {P : Nat → Prop} {w w' : World} {t L x : Nat} {sd : Int} {rows : List Row}
theorem TabIs.keep (h : TabIs P w t L x sd rows) {S : Nat → Prop} (ht : Turns S w w') (hS : ∀ k, P k → k < w.heap.size → ¬ S k) : TabIs P w' t L x sd rows := by
  obtain ⟨a, hv⟩ := h.var
  exact ⟨ht.blk h.hdr (hS _ h.pt h.hdr.lt), ⟨a, ht.blk hv (hS _ h.px hv.lt)⟩, (h.li.widen (Q := fun k => P k ∧ k < w.heap.size) (fun k hk hl => ⟨hk, hl⟩)).keep ht (fun k hk => hS k hk.1.1 hk.1.2) |>.widen (fun k hk _ => hk.1), h.pt, h.px⟩
theorem Tab.keep (h : Tab P w t rows) {S : Nat → Prop} (ht : Turns S w w') (hS : ∀ k, P k → k < w.heap.size → ¬ S k) : Tab P w' t rows := by
  obtain ⟨L, x, sd, h⟩ := h
  exact ⟨L, x, sd, h.keep ht hS⟩
theorem Tab.below (h : Tab P w t rows) (hb : Below w.heap.size w w') : Tab P w' t rows := h.keep (S := fun _ => False) (Turns.of_below hb) (fun _ _ _ h => h)
theorem Tab.widen {Q : Nat → Prop} (h : Tab P w t rows) (hq : ∀ k, P k → k < w.heap.size → Q k) : Tab Q w t rows := by
  obtain ⟨L, x, sd, h⟩ := h
  obtain ⟨a, hv⟩ := h.var
  exact ⟨L, x, sd, h.hdr, ⟨a, hv⟩, h.li.widen hq, hq _ h.pt h.hdr.lt, hq _ h.px hv.lt⟩
theorem Tab.srt (h : Tab P w t rows) : Srt Row.k rows := by
  obtain ⟨L, x, sd, h⟩ := h
  exact srt_rows h.li
theorem Tab.lt (h : Tab P w t rows) : t < w.heap.size := by
  obtain ⟨L, x, sd, h⟩ := h
  exact h.hdr.lt
end

set_option maxHeartbeats 400000 in
theorem New_tb (sd : Int) (w : World) (P : Nat → Prop) (hP : ∀ k, w.heap.size ≤ k → P k) :
    Calls Try.prog 12 #[.int .i64 sd] w fun e w' => ∃ t, e = .returned (TP t) ∧ Tab P w' t [] ∧ Below w.heap.size w w' := by
  have H := Lib.hid (New_li w P hP)
  have HP := Lib.hid hP
  clear hP
  go_enter Try.func12, Try.ntmps12
  go_wp2_with fail
  refine H.out.mono ?_
  rintro e w1 ⟨rfl, hb, hli, hsz⟩
  have HL := Lib.hid (And.intro hb (And.intro hli hsz))
  clear hb hli hsz
  go_wp2_with fail
  refine (drawing_any sd w1).mono ?_
  rintro e w' ⟨a, rfl, rfl⟩
  go_wp2
  go_ret
  have h1 : Below w1.heap.size w1 ((w1.alloc (.cells #[.int .u64 a] 79)).alloc (.cells #[.pointer (some ⟨w.heap.size + 1, 0, none⟩), Dr w1.heap.size, .int .i64 sd] 65)) := ((Below.refl _ _).alloc (Nat.le_refl _) _).alloc (by simp) _
  have h2 := HL.out.1.trans (h1.mono HL.out.1.size)
  refine ⟨_, rfl, ⟨w.heap.size + 1, w1.heap.size, sd, ?_, ⟨a, ?_⟩, HL.out.2.1.below h1, ?_, ?_⟩, h2⟩
  · have := Blk.new (w1.alloc (.cells #[.int .u64 a] 79)) 65 #[.pointer (some ⟨w.heap.size + 1, 0, none⟩), Dr w1.heap.size, .int .i64 sd]
    simpa using this
  · exact (Blk.new w1 _ _).alloc _
  · exact HP.out _ (by have := HL.out.1.size; omega)
  · exact HP.out _ HL.out.1.size

section
variable {P : Nat → Prop} {w : World} {t : Nat} {rows : List Row}
set_option maxHeartbeats 400000 in
theorem none_tb (h : Tab P w t rows) : Calls Try.prog 35 #[TP t] w fun e w' => e = .returned (.bool false) ∧ w = w' := by
  obtain ⟨L, x, sd, h⟩ := h
  have c0 : w.cell? ⟨t, 0, none⟩ = some (.pointer (some ⟨L, 0, none⟩)) := h.hdr.cell 0
  clear h
  go_enter Try.func35, Try.ntmps35
  go_wp2
  go_ret
  exact ⟨rfl, rfl⟩
set_option maxHeartbeats 400000 in
theorem Len_tb (h : Tab P w t rows) : Calls Try.prog 16 #[TP t] w fun e w' => e = .returned (.int .i64 rows.length) ∧ w = w' := by
  have H := Lib.hid (none_tb h)
  obtain ⟨L, x, sd, h⟩ := h
  have c0 : w.cell? ⟨t, 0, none⟩ = some (.pointer (some ⟨L, 0, none⟩)) := h.hdr.cell 0
  have H2 := Lib.hid (Len_li P L rows w h.li)
  clear h
  go_enter Try.func16, Try.ntmps16
  go_wp2_with fail
  refine H.out.mono ?_
  rintro e w' ⟨rfl, rfl⟩
  go_wp2_with fail
  refine H2.out.mono ?_
  rintro e w' ⟨rfl, rfl⟩
  go_wp2
  go_ret
  exact ⟨rfl, rfl⟩
set_option maxHeartbeats 400000 in
theorem Get_tb (key : ByteArray) (h : Tab P w t rows) : Calls Try.prog 21 #[TP t, .string key] w fun e w' => e = .returned (.tuple #[.string (getV key rows), .bool (getB key rows)]) ∧ Below w.heap.size w w' := by
  have H := Lib.hid (none_tb h)
  obtain ⟨L, x, sd, h⟩ := h
  have c0 : w.cell? ⟨t, 0, none⟩ = some (.pointer (some ⟨L, 0, none⟩)) := h.hdr.cell 0
  have H2 := Lib.hid (Get_li P L rows w key h.li)
  generalize getV key rows = gv at *
  generalize getB key rows = gb at *
  clear h
  go_enter Try.func21, Try.ntmps21
  go_wp2_with fail
  refine H.out.mono ?_
  rintro e w' ⟨rfl, rfl⟩
  go_wp2_with fail
  refine H2.out.mono ?_
  rintro e w' ⟨rfl, hb⟩
  have HB := Lib.hid hb
  clear hb
  go_wp2
  go_ret2
  exact ⟨rfl, HB.out⟩
end

end Tb
end Go.Proofs.Ytoglklldclgcbaa
