/-
  Walk: a table's Apply.
-/
import Derived.Test.YtoglklldclgcbaaTbNew
import Derived.Deep.RegionHeld3
namespace Go.Proofs.Ytoglklldclgcbaa
open Go.RowKit Sk
namespace Tb

/-- a change -/
structure Chg where
  k : ByteArray
  v : ByteArray
  d : Bool
/-- changes in memory -/
structure Ops (w : World) (A : Option Addr) (len cap : Nat) (l : List Chg) : Prop where
  hlen : l.length = len
  hcap : len ≤ cap
  nil : A = none → cap = 0
  cell : ∀ (k : Nat) (x : Chg), l[k]? = some x → ∃ g o, A = some ⟨g, o, none⟩ ∧ w.cell? ⟨g, o + k * 3, none⟩ = some (.string x.k) ∧ w.cell? ⟨g, o + k * 3 + 1, none⟩ = some (.string x.v) ∧ w.cell? ⟨g, o + k * 3 + 2, none⟩ = some (.bool x.d)
theorem Ops.turns {w w' : World} {A : Option Addr} {len cap : Nat} {l : List Chg} (h : Ops w A len cap l) {S : Nat → Prop} (ht : Turns S w w') (hS : ∀ g o, A = some ⟨g, o, none⟩ → l ≠ [] → ¬ S g) : Ops w' A len cap l :=
  ⟨h.hlen, h.hcap, h.nil, fun k x hx => by
    obtain ⟨g, o, hA, c0, c1, c2⟩ := h.cell k x hx
    have hb := ht.block g (World.block_lt_of_cell? w _ c0) (hS g o hA (fun e => by rw [e] at hx; cases hx))
    have hc : ∀ j, w'.cell? ⟨g, j, none⟩ = w.cell? ⟨g, j, none⟩ := fun j => World.cell?_of_block (w := w) (a := ⟨g, j, none⟩) hb
    exact ⟨g, o, hA, (hc _).trans c0, (hc _).trans c1, (hc _).trans c2⟩⟩
theorem Ops.below {w w' : World} {A : Option Addr} {len cap : Nat} {l : List Chg} (h : Ops w A len cap l) (hb : Below w.heap.size w w') : Ops w' A len cap l := h.turns (S := fun _ => False) (Turns.of_below hb) (fun _ _ _ _ h => h)

def badC (o : Chg) : Bool := o.k.toList.isEmpty || (o.d && !o.v.toList.isEmpty)
def chkO (l : List Chg) : Int := if 128 < l.length then 5 else if l.any badC = true then 2 else 0
def oneT (r : List Row) (o : Chg) : List Row := if o.d = true then dropT o.k r else putT o.k o.v r
def runT (l : List Chg) (rows : List Row) : List Row := l.foldl oneT rows
def appT (l : List Chg) (rows : List Row) : List Row := if chkO l = 0 then runT l rows else rows
theorem oneT_len (r : List Row) (o : Chg) : (oneT r o).length ≤ r.length + 1 := by
  unfold oneT
  split
  · exact Nat.le_trans (dropT_len _ _) (Nat.le_succ _)
  · exact putT_len _ _ _
theorem runT_len (l : List Chg) (rows : List Row) : (runT l rows).length ≤ rows.length + l.length := by
  unfold runT
  induction l generalizing rows with
  | nil => simp
  | cons o l ih =>
    have h1 := ih (oneT rows o)
    have h2 := oneT_len rows o
    simp only [List.foldl_cons, List.length_cons]
    omega
theorem runT_take {l : List Chg} {rows : List Row} {k : Nat} {o : Chg} (h : l[k]? = some o) : runT (l.take (k + 1)) rows = oneT (runT (l.take k) rows) o := by
  obtain ⟨hk, rfl⟩ := List.getElem?_eq_some_iff.1 h
  unfold runT
  rw [List.take_succ_eq_append_getElem hk, List.foldl_append]
  rfl

section
variable {P : Nat → Prop} {w : World} {t L x : Nat} {sd : Int} {rows : List Row}
theorem TabIs.of (h : TabIs P w t L x sd rows) {w' : World} {rows' : List Row} (ht : Turns (Of w Lk P) w w') (hli : Li P w' L rows') : TabIs P w' t L x sd rows' := by
  obtain ⟨a, hv⟩ := h.var
  exact ⟨ht.blk h.hdr (not_of h.hdr (by decide)), ⟨a, ht.blk hv (not_of hv (by decide))⟩, hli, h.pt, h.px⟩
theorem draw_tb (h : TabIs P w t L x sd rows) :
    Calls Try.prog 48 #[.pointer (some ⟨x, 0, none⟩)] w fun e w' => ∃ n : Nat, 1 ≤ n ∧ n ≤ 16 ∧ e = .returned (.int .i64 n) ∧ TabIs P w' t L x sd rows ∧ Turns (Of w [79] P) w w' := by
  obtain ⟨a, hv⟩ := h.var
  refine (draw_any x a w (hv.cell 0) (hv.free 0)).mono fun e w' ⟨n, a', h1, h2, he, hw⟩ => ?_
  have ht : Turns (Of w [79] P) w w' := by
    rw [hw]
    exact (Turns.refl _ w).setCell (p := ⟨x, 0, none⟩) (fun _ => ⟨h.px, _, List.mem_singleton.2 rfl, kind_blk hv⟩) _
  refine ⟨n, h1, h2, he, ⟨ht.blk h.hdr (not_of h.hdr (by decide)), ⟨a', ?_⟩, h.li.keep ht (fun k hk => of_ne hk (by decide)), h.pt, h.px⟩, ht⟩
  rw [hw]
  exact hv.set_ 0 _
theorem put_tb (h : TabIs P w t L x sd rows) (hP : ∀ k, w.heap.size ≤ k → P k) (key v : ByteArray) (m : Nat) (h1 : 1 ≤ m) (h2 : m ≤ 16) (hlen : rows.length ≤ 999999) :
    Calls Try.prog 37 #[TP L, .string key, .string v, .int .i64 m] w fun e w' => e = .returned (.bool true) ∧ TabIs P w' t L x sd (putT key v rows) ∧ Turns (Of w Lk P) w w' :=
  (Put_li P L rows key v m w h.li hP h1 h2 hlen).mono fun _ _ ⟨he, hl, ht⟩ => ⟨he, h.of ht hl, ht⟩
theorem drop_tb (h : TabIs P w t L x sd rows) (key : ByteArray) (hlen : rows.length ≤ 999999) :
    Calls Try.prog 36 #[TP L, .string key] w fun e w' => ∃ q, e = .returned (.bool q) ∧ TabIs P w' t L x sd (dropT key rows) ∧ Turns (Of w Lk P) w w' :=
  (Drop_li P L rows key w h.li (by omega)).mono fun _ _ ⟨⟨q, he⟩, hl, ht⟩ => ⟨q, he, h.of ht hl, ht⟩
end

def A1Rel (l : List Chg) (w : World) (cnt : Nat) (s : Value) (w1 : World) : Prop := ∃ k, k + cnt = l.length ∧ s = .int .i64 (k : Nat) ∧ (∀ j o, j < k → l[j]? = some o → badC o = false) ∧ Below w.heap.size w w1
def A2Rel (P : Nat → Prop) (t L x : Nat) (sd : Int) (rows : List Row) (l : List Chg) (w : World) (cnt : Nat) (s : Value) (w1 : World) : Prop := ∃ k, k + cnt = l.length ∧ s = .int .i64 (k : Nat) ∧ TabIs P w1 t L x sd (runT (l.take k) rows) ∧ Turns P w w1

set_option maxRecDepth 100000 in
set_option maxHeartbeats 4000000 in
theorem Apply_tb (P : Nat → Prop) (t : Nat) (rows : List Row) (A : Option Addr) (len cap : Nat) (l : List Chg) (w : World) (h : Tab P w t rows) (hP : ∀ k, w.heap.size ≤ k → P k) (ho : Ops w A len cap l) (hA : ∀ g o, A = some ⟨g, o, none⟩ → l ≠ [] → ¬ P g) (hr : rows.length ≤ 900000) :
    Calls Try.prog 14 #[TP t, .slice A len cap] w fun e w' => e = .returned (.int .i64 (chkO l)) ∧ Tab P w' t (appT l rows) ∧ Turns P w w' := by
  obtain rfl := ho.hlen
  have HN := Lib.hid (none_tb h)
  have HT := Lib.hid h
  have HP := Lib.hid hP
  have HO := Lib.hid ho
  have HA := Lib.hid hA
  by_cases hl : 128 < l.length
  · have hd : decide ((128 : Int) < (l.length : Int)) = true := by simp; omega
    have HC : Hid (chkO l = 5 ∧ appT l rows = rows) := by
      have : chkO l = 5 := by unfold chkO; rw [if_pos hl]
      exact ⟨this, by unfold appT; rw [this]; rfl⟩
    clear h hP ho hA
    go_enter Try.func14, Try.ntmps14
    go_wp2_with fail
    refine HN.out.mono ?_
    rintro e w' ⟨rfl, rfl⟩
    go_wp2
    go_ret
    exact ⟨by rw [HC.out.1]; rfl, by rw [HC.out.2]; exact HT.out, Turns.refl _ _⟩
  · have hd : decide ((128 : Int) < (l.length : Int)) = false := by simp; omega
    have hl8 : l.length ≤ 128 := by omega
    obtain ⟨n, hn⟩ : ∃ n, n = l.length := ⟨_, rfl⟩
    have HLN := Lib.hid hn
    rw [← hn] at hd hl8 ⊢
    obtain ⟨L, x, sd, ht⟩ := h
    have HI := Lib.hid ht
    have c0 : w.cell? ⟨t, 0, none⟩ = some (.pointer (some ⟨L, 0, none⟩)) := ht.hdr.cell 0
    clear hP ho hA hl ht hn
    go_enter Try.func14, Try.ntmps14
    go_wp2_with fail
    refine HN.out.mono ?_
    rintro e w' ⟨rfl, rfl⟩
    go_wp2
    go_loopg [18] n (fun cnt s w1 => A1Rel l w cnt s w1)
    case atStart => exact ⟨0, by have := HLN.out; omega, rfl, fun j o hj => by omega, Below.refl _ _⟩
    case round =>
      obtain ⟨k, hk, rfl, hall, hbel⟩ := hrel
      rw [← HLN.out] at hk
      have HK := Lib.hid hk
      have HB := Lib.hid hbel
      have HALL := Lib.hid hall
      by_cases hlt : k < n
      · obtain ⟨o, hq⟩ : ∃ o, l[k]? = some o := ⟨_, List.getElem?_eq_getElem (show k < l.length by rw [← HLN.out]; exact hlt)⟩
        obtain ⟨g, f, rfl, x0, x1, x2⟩ := (HO.out.below hbel).cell k o hq
        have hgl := World.block_lt_of_cell? wr _ x0
        have b1 : (k : Int) < (n : Int) := by omega
        have b2 : (0 : Int) ≤ (k : Int) := by omega
        obtain ⟨ck, cv, cd⟩ := o
        have HFB : Hid (badC ⟨ck, cv, cd⟩ = true → chkO l = 2 ∧ appT l rows = rows) := fun hb => by
          have : chkO l = 2 := by
            unfold chkO
            rw [if_neg (by have := HLN.out; omega), if_pos (List.any_eq_true.2 ⟨_, List.mem_of_getElem? hq, hb⟩)]
          exact ⟨this, by unfold appT; rw [this]; rfl⟩
        have HFN : Hid (badC ⟨ck, cv, cd⟩ = false → ∀ w1, Below wr.heap.size wr w1 → A1Rel l w (n - (k + 1)) (.int .i64 ((k : Int) + 1)) w1) := fun hb w1 hw1 => ⟨k + 1, by rw [← HLN.out]; omega, by simp, fun j o hj ho => by
          by_cases e : j = k
          · subst e; rw [hq] at ho; injection ho with ho; rw [← ho]; exact hb
          · exact HALL.out j o (by omega) ho, HB.out.trans (hw1.mono HB.out.size)⟩
        have HTW : Hid (Tab P wr t rows ∧ Turns P w wr) := ⟨HT.out.below hbel, Turns.of_below hbel⟩
        have HEB := Lib.hid (show badC ⟨ck, cv, cd⟩ = (ck.toList.isEmpty || (cd && !cv.toList.isEmpty)) from rfl)
        simp only at x0 x1 x2
        clear hall hbel hk hq
        cases e1 : ck.toList.isEmpty with
        | true =>
          have HF := Lib.hid (HFB.out (by rw [HEB.out, e1]; rfl))
          go_wp2
          go_ret
          exact ⟨by rw [HF.out.1]; rfl, by rw [HF.out.2]; exact HTW.out.1.below ((Below.refl _ _).alloc (Nat.le_refl _) _), HTW.out.2.alloc _⟩
        | false =>
          cases cd with
          | false =>
            have HF := Lib.hid (HFN.out (by rw [HEB.out, e1]; rfl))
            go_wp2
            go_roundg (n - (k + 1))
            case measure => have := HK.out; omega
            case rel => exact HF.out _ ((Below.refl _ _).alloc (Nat.le_refl _) _)
          | true =>
            cases e2 : cv.toList.isEmpty with
            | true =>
              have HF := Lib.hid (HFN.out (by rw [HEB.out, e1, e2]; rfl))
              go_wp2
              go_roundg (n - (k + 1))
              case measure => have := HK.out; omega
              case rel => exact HF.out _ ((Below.refl _ _).alloc (Nat.le_refl _) _)
            | false =>
              have HF := Lib.hid (HFB.out (by rw [HEB.out, e1, e2]; rfl))
              go_wp2
              go_ret
              exact ⟨by rw [HF.out.1]; rfl, by rw [HF.out.2]; exact HTW.out.1.below ((Below.refl _ _).alloc (Nat.le_refl _) _), HTW.out.2.alloc _⟩
      · have ek : decide ((k : Int) < (n : Int)) = false := by simp; omega
        have ek2 : decide (k < n) = false := by simp; omega
        have HC : Hid (chkO l = 0 ∧ appT l rows = runT l rows) := by
          have h0 : l.any badC = false := by
            rw [List.any_eq_false]
            intro o ho
            obtain ⟨j, hj⟩ := List.mem_iff_getElem?.1 ho
            have hjl := (List.getElem?_eq_some_iff.1 hj).1
            rw [HALL.out j o (by have := HLN.out; omega) hj]
            simp
          have : chkO l = 0 := by unfold chkO; rw [if_neg (by have := HLN.out; omega), if_neg (by rw [h0]; simp)]
          exact ⟨this, by unfold appT; rw [this]; rfl⟩
        have HT0 : Hid (TabIs P wr t L x sd rows ∧ Turns P w wr) := ⟨HI.out.keep (S := fun _ => False) (Turns.of_below hbel) (fun _ _ _ h => h), Turns.of_below hbel⟩
        clear hall hbel hk hlt c0 HALL HB
        go_wp2
        go_loopg [37] n (fun cnt s w1 => A2Rel P t L x sd rows l w cnt s w1)
        case atStart => exact ⟨0, by have := HLN.out; omega, rfl, HT0.out.1, HT0.out.2⟩
        case round =>
          obtain ⟨k, hk, rfl, htab, hturn⟩ := hrel
          rw [← HLN.out] at hk
          have HK := Lib.hid hk
          have HTB := Lib.hid (And.intro htab hturn)
          by_cases hlt : k < n
          · obtain ⟨o, hq⟩ : ∃ o, l[k]? = some o := ⟨_, List.getElem?_eq_getElem (show k < l.length by rw [← HLN.out]; exact hlt)⟩
            obtain ⟨g, f, rfl, x0, x1, x2⟩ := (HO.out.turns hturn HA.out).cell k o hq
            have hgl := World.block_lt_of_cell? wr _ x0
            have b1 : (k : Int) < (n : Int) := by omega
            have b2 : (0 : Int) ≤ (k : Int) := by omega
            have hrt := runT_take (rows := rows) hq
            have hlen := runT_len (l.take k) rows
            rw [List.length_take] at hlen
            have hlen9 : (runT (l.take k) rows).length ≤ 999999 := by omega
            have HNX : Hid (∀ w2, TabIs P w2 t L x sd (oneT (runT (l.take k) rows) o) → Turns P wr w2 → A2Rel P t L x sd rows l w (n - (k + 1)) (.int .i64 ((k : Int) + 1)) w2) := fun w2 h1 h2 => ⟨k + 1, by rw [← HLN.out]; omega, by simp, by rw [hrt]; exact h1, HTB.out.2.trans h2 (fun _ _ h => h)⟩
            obtain ⟨ck, cv, cd⟩ := o
            generalize runT (l.take k) rows = rs at *
            simp only at x0 x1 x2
            clear htab hturn hk hq hrt hlen
            cases cd with
            | true =>
              go_wp2
              obtain ⟨W, hW⟩ : ∃ W, wr.alloc (.cells #[.string ck, .string cv, .bool true] 32) = W := ⟨_, rfl⟩
              rw [hW]
              have hbw : Below wr.heap.size wr W := by rw [← hW]; exact (Below.refl _ _).alloc (Nat.le_refl _) _
              have hblk : Blk W wr.heap.size 32 #[.string ck, .string cv, .bool true] := by rw [← hW]; exact Blk.new _ _ _
              have htw : TabIs P W t L x sd rs := HTB.out.1.keep (S := fun _ => False) (Turns.of_below hbw) (fun _ _ _ h => h)
              have hc0 : W.cell? ⟨t, 0, none⟩ = some (.pointer (some ⟨L, 0, none⟩)) := htw.hdr.cell 0
              have hc1 : W.cell? ⟨t, 1, none⟩ = some (Dr x) := htw.hdr.cell 1
              have hk0 : W.cell? ⟨wr.heap.size, 0, none⟩ = some (.string ck) := hblk.cell 0
              have hk1 : W.cell? ⟨wr.heap.size, 1, none⟩ = some (.string cv) := hblk.cell 1
              have hPW : ∀ k, W.heap.size ≤ k → P k := fun k hk => HP.out k (Nat.le_trans (Nat.le_trans HTB.out.2.size hbw.size) hk)
              have HW := Lib.hid (And.intro htw (And.intro hblk (And.intro hbw hPW)))
              clear hW hbw hblk htw hPW
              go_region_held3 (fun w' => w'.cell? ⟨t, 0, none⟩ = some (.pointer (some ⟨L, 0, none⟩)) ∧ w'.cell? ⟨wr.heap.size, 0, none⟩ = some (.string ck)) (first | assumption | go_keep)
                ((go_at_call 36
                  refine (drop_tb (HW.out.1.keep (S := fun _ => False) (Turns.of_below ((Below.refl _ _).drew)) (fun _ _ _ h => h)) ck hlen9).mono ?_
                  rintro e w2 ⟨q, rfl, ht2, hf2⟩
                  have hb2 := hf2.blk (g := wr.heap.size) HW.out.2.1 (not_of HW.out.2.1 (by decide))
                  have c2 := And.intro (ht2.hdr.cell 0) (hb2.cell 0)
                  have h2 := Lib.hid (And.intro ht2 ((Turns.of_below (S := P) (HW.out.2.2.1.drew)).trans (S' := Of W Lk P) hf2 (fun _ _ h => h.1)))
                  clear ht2 hf2 hb2))
              have HF := Lib.hid (HNX.out _ h2.out.1 h2.out.2)
              go_wp2
              go_roundg (n - (k + 1))
              case measure => have := HK.out; omega
              case rel => exact HF.out
            | false =>
              go_wp2
              obtain ⟨W, hW⟩ : ∃ W, wr.alloc (.cells #[.string ck, .string cv, .bool false] 32) = W := ⟨_, rfl⟩
              rw [hW]
              have hbw : Below wr.heap.size wr W := by rw [← hW]; exact (Below.refl _ _).alloc (Nat.le_refl _) _
              have hblk : Blk W wr.heap.size 32 #[.string ck, .string cv, .bool false] := by rw [← hW]; exact Blk.new _ _ _
              have htw : TabIs P W t L x sd rs := HTB.out.1.keep (S := fun _ => False) (Turns.of_below hbw) (fun _ _ _ h => h)
              have hc0 : W.cell? ⟨t, 0, none⟩ = some (.pointer (some ⟨L, 0, none⟩)) := htw.hdr.cell 0
              have hc1 : W.cell? ⟨t, 1, none⟩ = some (Dr x) := htw.hdr.cell 1
              have hk0 : W.cell? ⟨wr.heap.size, 0, none⟩ = some (.string ck) := hblk.cell 0
              have hk1 : W.cell? ⟨wr.heap.size, 1, none⟩ = some (.string cv) := hblk.cell 1
              have hPW : ∀ k, W.heap.size ≤ k → P k := fun k hk => HP.out k (Nat.le_trans (Nat.le_trans HTB.out.2.size hbw.size) hk)
              have HW := Lib.hid (And.intro htw (And.intro hblk (And.intro hbw hPW)))
              clear hW hbw hblk htw hPW
              go_region_held3 (fun w' => w'.cell? ⟨t, 0, none⟩ = some (.pointer (some ⟨L, 0, none⟩)) ∧ w'.cell? ⟨t, 1, none⟩ = some (Dr x) ∧ w'.cell? ⟨wr.heap.size, 0, none⟩ = some (.string ck) ∧ w'.cell? ⟨wr.heap.size, 1, none⟩ = some (.string cv)) (first | assumption | go_keep)
                (first
                 | (go_at_call 48
                    refine (draw_tb (HW.out.1.keep (S := fun _ => False) (Turns.of_below ((Below.refl _ _).drew)) (fun _ _ _ h => h))).mono ?_
                    rintro e w2 ⟨m, hm1, hm2, rfl, ht2, hf2⟩
                    have hb2 := hf2.blk (g := wr.heap.size) HW.out.2.1 (not_of HW.out.2.1 (by decide))
                    have c2 := And.intro (ht2.hdr.cell 0) (And.intro (ht2.hdr.cell 1) (And.intro (hb2.cell 0) (hb2.cell 1)))
                    have h2 := Lib.hid (And.intro ht2 (And.intro hb2 (And.intro ((Turns.of_below (S := P) (HW.out.2.2.1.drew)).trans (S' := Of W [79] P) hf2 (fun _ _ h => h.1)) (fun k (hk : w2.heap.size ≤ k) => HW.out.2.2.2 k (Nat.le_trans hf2.size hk)))))
                    clear ht2 hf2 hb2)
                 | (go_at_call 37
                    refine (put_tb h2.out.1 h2.out.2.2.2 ck cv m hm1 hm2 hlen9).mono ?_
                    rintro e w3 ⟨rfl, ht3, hf3⟩
                    have hb3 := hf3.blk (g := wr.heap.size) h2.out.2.1 (not_of h2.out.2.1 (by decide))
                    have c3 := And.intro (ht3.hdr.cell 0) (And.intro (ht3.hdr.cell 1) (And.intro (hb3.cell 0) (hb3.cell 1)))
                    have h3 := Lib.hid (And.intro ht3 (h2.out.2.2.1.trans (S' := Of w2 Lk P) hf3 (fun _ _ h => h.1)))
                    clear ht3 hf3 hb3))
              have HF := Lib.hid (HNX.out _ h3.out.1 h3.out.2)
              go_wp2
              go_roundg (n - (k + 1))
              case measure => have := HK.out; omega
              case rel => exact HF.out
          · have ek : decide ((k : Int) < (n : Int)) = false := by simp; omega
            have ek2 : decide (k < n) = false := by simp; omega
            have HF : Hid (Tab P wr t (runT l rows) ∧ Turns P w wr) := by
              have e : l.take k = l := List.take_of_length_le (by rw [← HLN.out]; omega)
              rw [e] at htab
              exact ⟨⟨L, x, sd, htab⟩, hturn⟩
            clear htab hturn hk hlt
            go_wp2
            go_ret
            exact ⟨by rw [HC.out.1]; rfl, by rw [HC.out.2]; exact HF.out.1, HF.out.2⟩

end Tb
end Go.Proofs.Ytoglklldclgcbaa
