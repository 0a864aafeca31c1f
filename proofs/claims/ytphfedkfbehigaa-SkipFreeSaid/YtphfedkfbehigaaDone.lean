/-
  Walk: 'done' (scriptoriumlaw09): a deed is done to both lists: they answer alike, and hold the same rows.
-/
import Derived.Test.YtphfedkfbehigaaAsk
import Derived.Test.YtphfedkfbehigaaBring
import Derived.Deep.RegionHeld3
import Derived.Deep.RegionWith
namespace Go.Proofs.Ytphfedkfbehigaa
open Go.RowKit Sk
namespace St

/-- a deed -/
structure Deed where
  kind : Int
  key : ByteArray
  value : Int
  steps : Int

def deedR (d : Deed) (l : List Row) : List Row :=
  if d.kind % 3 = 2 then dropR d.key l else if okS d.steps = true then putR d.key d.value d.steps.toNat l else l

theorem deedR_length (d : Deed) (l : List Row) : (deedR d l).length ≤ l.length + 1 := by
  unfold deedR
  split
  · exact Nat.le_succ_of_le (dropR_length _ _)
  · split
    · exact putR_length _ _ _ _
    · exact Nat.le_succ _

set_option maxHeartbeats 1000000 in
theorem done_drop (B L p : Nat) (rows : List Row) (d : Deed) (w : World) (h : Sk B w L rows) (hr : Re B w p rows) (hB : B ≤ w.heap.size) (hlen : rows.length ≤ 999999) (hk : d.kind % 3 = 2) :
    Calls Try.prog 13 #[.pointer (some ⟨L, 0, none⟩), .pointer (some ⟨p, 0, none⟩), .agg #[.int .i64 d.kind, .string d.key, .int .i64 d.value, .int .i64 d.steps]] w fun e w' =>
      e = .returned (.bool true) ∧ Sk B w' L (dropR d.key rows) ∧ Re B w' p (dropR d.key rows) ∧ Below B w w' := by
  have HH := Lib.hid (And.intro h (And.intro hr hB))
  have HK := Lib.hid hk
  have e2 : ((2 : Int) == 2) = true := rfl
  clear h hr hk
  go_enter Try.func13, Try.ntmps13
  go_wp2_with fail
  refine (Br.Bring_any _ _ _ (by omega) (by omega)).mono ?_
  rintro e w1 ⟨rfl, rfl⟩
  rw [HK.out]
  go_wp2_with fail
  obtain ⟨W, hW⟩ : ∃ W, w.alloc (.cells #[.int .i64 d.kind, .string d.key, .int .i64 d.value, .int .i64 d.steps] 29) = W := ⟨_, rfl⟩
  rw [hW]
  have hbw : Below w.heap.size w W := by rw [← hW]; exact (Below.refl _ _).alloc (Nat.le_refl _) _
  have hblk : Blk W w.heap.size 29 #[.int .i64 d.kind, .string d.key, .int .i64 d.value, .int .i64 d.steps] := by rw [← hW]; exact Blk.new _ _ _
  have hBW : B ≤ W.heap.size := Nat.le_trans HH.out.2.2 hbw.size
  have hs : Sk B W L rows := HH.out.1.below hbw
  have hr : Re B W p rows := HH.out.2.1.below hbw
  have hc : W.cell? ⟨w.heap.size, 1, none⟩ = some (.string d.key) := hblk.cell 1
  have HW := Lib.hid (And.intro hs (And.intro hr (And.intro hblk (And.intro hBW (hbw.mono HH.out.2.2)))))
  clear hW hbw hblk hBW hs hr
  have hl6 : rows.length ≤ 1000000 := by omega
  go_region_held3 (fun w' => w'.cell? ⟨w.heap.size, 1, none⟩ = some (.string d.key)) (first | assumption | go_keep)
    (first
      | (go_at_call 31
         refine (Drop_st B L rows d.key _ (HW.out.1.below ((Below.refl _ _).drew)) hl6).mono ?_
         rintro e w2 ⟨rfl, hs2, ht2⟩
         have hb2 := ht2.blk (g := w.heap.size) HW.out.2.2.1 (not_of (B := B) HW.out.2.2.1 (by decide))
         have c2 := hb2.cell 1
         have hr2 := (HW.out.2.1.below ((Below.refl _ _).drew)).keep ht2 (fun k hk => of_ne hk (by decide))
         have h2 := Lib.hid (And.intro hs2 (And.intro hr2 (And.intro hb2 (HW.out.2.2.2.2.trans ((Below.refl B W).drew.trans (below_of ht2 HW.out.2.2.2.1))))))
         have hsz2 := Lib.hid ht2.size
         clear hs2 ht2 hb2 hr2)
      | (go_at_call 41
         refine (RDrop_st B p rows d.key _ h2.out.2.1 hl6).mono ?_
         rintro e w3 ⟨rfl, hr3, ht3⟩
         have hb3 := ht3.blk (g := w.heap.size) h2.out.2.2.1 (not_of (B := B) h2.out.2.2.1 (by decide))
         have c3 := hb3.cell 1
         have hs3 := h2.out.1.keep ht3 (fun k hk => of_ne hk (by decide))
         have h3 := Lib.hid (And.intro hs3 (And.intro hr3 (h2.out.2.2.2.trans (below_of ht3 (Nat.le_trans HW.out.2.2.2.1 hsz2.out)))))
         clear hr3 ht3 hb3 hs3))
  go_wp2
  go_ret
  exact ⟨by simp, h3.out⟩

set_option maxHeartbeats 1000000 in
theorem done_put (B L p : Nat) (rows : List Row) (d : Deed) (w : World) (h : Sk B w L rows) (hr : Re B w p rows) (hB : B ≤ w.heap.size) (hlen : rows.length ≤ 999999) (hk : d.kind % 3 ≠ 2) :
    Calls Try.prog 13 #[.pointer (some ⟨L, 0, none⟩), .pointer (some ⟨p, 0, none⟩), .agg #[.int .i64 d.kind, .string d.key, .int .i64 d.value, .int .i64 d.steps]] w fun e w' =>
      e = .returned (.bool true) ∧ Sk B w' L (deedR d rows) ∧ Re B w' p (deedR d rows) ∧ Below B w w' := by
  have HH := Lib.hid (And.intro h (And.intro hr hB))
  have e2 : (d.kind % 3 == 2) = false := by simp; omega
  have HD := Lib.hid (show deedR d rows = if okS d.steps = true then putR d.key d.value d.steps.toNat rows else rows by unfold deedR; rw [if_neg hk])
  clear h hr hk
  go_enter Try.func13, Try.ntmps13
  go_wp2_with fail
  refine (Br.Bring_any _ _ _ (by omega) (by omega)).mono ?_
  rintro e w1 ⟨rfl, rfl⟩
  go_wp2_with fail
  obtain ⟨W, hW⟩ : ∃ W, w.alloc (.cells #[.int .i64 d.kind, .string d.key, .int .i64 d.value, .int .i64 d.steps] 29) = W := ⟨_, rfl⟩
  rw [hW]
  have hbw : Below w.heap.size w W := by rw [← hW]; exact (Below.refl _ _).alloc (Nat.le_refl _) _
  have hblk : Blk W w.heap.size 29 #[.int .i64 d.kind, .string d.key, .int .i64 d.value, .int .i64 d.steps] := by rw [← hW]; exact Blk.new _ _ _
  have hBW : B ≤ W.heap.size := Nat.le_trans HH.out.2.2 hbw.size
  have hs : Sk B W L rows := HH.out.1.below hbw
  have hr : Re B W p rows := HH.out.2.1.below hbw
  have hc : W.cell? ⟨w.heap.size, 1, none⟩ = some (.string d.key) := hblk.cell 1
  have hcv : W.cell? ⟨w.heap.size, 2, none⟩ = some (.int .i64 d.value) := hblk.cell 2
  have hcs : W.cell? ⟨w.heap.size, 3, none⟩ = some (.int .i64 d.steps) := hblk.cell 3
  have HW := Lib.hid (And.intro hs (And.intro hr (And.intro hblk (And.intro hBW (hbw.mono HH.out.2.2)))))
  clear hW hbw hblk hBW hs hr
  have hl6 : rows.length ≤ 1000000 := by omega
  go_region_held3 (fun w' => w'.cell? ⟨w.heap.size, 1, none⟩ = some (.string d.key) ∧ w'.cell? ⟨w.heap.size, 2, none⟩ = some (.int .i64 d.value) ∧ w'.cell? ⟨w.heap.size, 3, none⟩ = some (.int .i64 d.steps)) (first | assumption | go_keep)
    (first
      | (go_at_call 30
         refine (Put_st B L rows d.key _ _ _ (HW.out.1.below ((Below.refl _ _).drew)) HW.out.2.2.2.1 hlen).mono ?_
         rintro e w2 ⟨rfl, hs2, ht2⟩
         have hb2 := ht2.blk (g := w.heap.size) HW.out.2.2.1 (not_of (B := B) HW.out.2.2.1 (by decide))
         have c21 := hb2.cell 1
         have c22 := hb2.cell 2
         have c23 := hb2.cell 3
         have c2 := And.intro c21 (And.intro c22 c23)
         have hr2 := (HW.out.2.1.below ((Below.refl _ _).drew)).keep ht2 (fun k hk => of_ne hk (by decide))
         have h2 := Lib.hid (And.intro hs2 (And.intro hr2 (And.intro hb2 (HW.out.2.2.2.2.trans ((Below.refl B W).drew.trans (below_of ht2 HW.out.2.2.2.1))))))
         have hsz2 := Lib.hid ht2.size
         clear hs2 ht2 hb2 hr2 c21 c22 c23)
      | (go_at_call 42
         refine (RPut_st B p rows d.key _ _ _ h2.out.2.1 hl6).mono ?_
         rintro e w3 ⟨rfl, hr3, ht3⟩
         have hb3 := ht3.blk (g := w.heap.size) h2.out.2.2.1 (not_of (B := B) h2.out.2.2.1 (by decide))
         have c31 := hb3.cell 1
         have c32 := hb3.cell 2
         have c33 := hb3.cell 3
         have c3 := And.intro c31 (And.intro c32 c33)
         have hs3 := h2.out.1.keep ht3 (fun k hk => of_ne hk (by decide))
         have h3 := Lib.hid (And.intro hs3 (And.intro hr3 (h2.out.2.2.2.trans (below_of ht3 (Nat.le_trans HW.out.2.2.2.1 hsz2.out)))))
         clear hr3 ht3 hb3 hs3 c31 c32 c33))
  go_wp2
  go_ret
  exact ⟨by simp, by rw [HD.out]; exact h3.out⟩

theorem done_any (B L p : Nat) (rows : List Row) (d : Deed) (w : World) (h : Sk B w L rows) (hr : Re B w p rows) (hB : B ≤ w.heap.size) (hlen : rows.length ≤ 999999) :
    Calls Try.prog 13 #[.pointer (some ⟨L, 0, none⟩), .pointer (some ⟨p, 0, none⟩), .agg #[.int .i64 d.kind, .string d.key, .int .i64 d.value, .int .i64 d.steps]] w fun e w' =>
      e = .returned (.bool true) ∧ Sk B w' L (deedR d rows) ∧ Re B w' p (deedR d rows) ∧ Below B w w' := by
  by_cases hk : d.kind % 3 = 2
  · have e : deedR d rows = dropR d.key rows := by unfold deedR; rw [if_pos hk]
    rw [e]
    exact done_drop B L p rows d w h hr hB hlen hk
  · exact done_put B L p rows d w h hr hB hlen hk

end St
end Go.Proofs.Ytphfedkfbehigaa
