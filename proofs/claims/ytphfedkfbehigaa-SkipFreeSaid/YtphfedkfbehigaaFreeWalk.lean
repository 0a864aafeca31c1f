/-
  Walk: the law SkipFree.
-/
import Derived.Test.YtphfedkfbehigaaFreeFacts
namespace Go.Proofs.Ytphfedkfbehigaa
open Go.RowKit Sk
namespace St

/-- a deed's cells -/
def dc (d : Deed) : List Value := [.int .i64 d.kind, .string d.key, .int .i64 d.value, .int .i64 d.steps]
theorem deed_info : (Try.prog.info? 29).map (fun i => (i.zero, i.size, i.bytes)) = some (some (.agg #[.int .i64 0, .string ⟨#[]⟩, .int .i64 0, .int .i64 0]), 4, 40) := by kernel_rfl
theorem dc_length (d : Deed) : (dc d).length = 4 := rfl
/-- 'append(other, d)', d in a block of its own -/
theorem wpList_append_deed {w : World} {ops : Array Oper} {rest : List Oper} {o : Oper} {a : Act} {Q : Exit → Act → World → Prop} (hgd : o.guard = none) (s x : Operand)
    (ho : o.op = .call { callee := .builtin .append, args := #[s, x], argTypes := #[22, 22] }) (B : Nat) (v : Value) (k : Nat) (l : List Deed) (hs : a.eval s = v)
    (hown : w.ownsRow B 29 4 v k (flat dc l)) (g : Nat) (d : Deed) (hx : a.eval x = .slice (some ⟨g, 0, none⟩) 1 1) (hd : Blk w g 29 (dc d).toArray) (hB : B ≤ w.heap.size) (hlen : k ≤ 1000000)
    (h : ∀ v' w', w'.ownsRow B 29 4 v' (k + 1) (flat dc (l ++ [d])) → w.grownBy w' v.ownBlock → wpList Try.prog ops Q rest (a.put o.dst v') w') : wpList Try.prog ops Q (o :: rest) a w := by
  obtain ⟨i0, hi0, hz0, hz1, hz2⟩ := info_parts deed_info
  refine wpList_append_src hgd s x 22 ho B 29 i0 _ 4 40 Try.underlying22 hi0 hz0 hz1 hz2 rfl (by decide) v k _ hs hown _ 1 1 (dc d) hx rfl (fun h => by cases h) ?_ ?_ (by unfold maxLen; omega) (by omega) hB ?_
  · intro ad e j u hj
    injection e with e
    subst e
    rw [addr_add, Nat.zero_add, hd.cell j]
    simpa using hj
  · intro u hu
    simp only [dc, List.mem_cons, List.not_mem_nil, or_false] at hu
    rcases hu with rfl | rfl | rfl | rfl <;> rfl
  · intro v' w' h1 h2
    refine h v' w' ?_ h2
    rw [flat_append]
    simpa [flat] using h1
theorem own_deed_kind {B : Nat} {w : World} {u : Value} {k : Nat} {xs : List Value} (h : w.ownsRow B 29 4 u k xs) : ∀ g, u.ownBlock = some g → B ≤ g ∧ kindOf w g = some 29 := fun g hg => by
  refine ⟨(World.ownsRow.lt h g hg).1, ?_⟩
  rcases owns_form h with ⟨rfl, _, _⟩ | ⟨g', cap, rfl, _, _⟩
  · simp [Value.ownBlock] at hg
  · obtain ⟨cs, hb⟩ := owns_blk h
    have : g' = g := by simpa [Value.ownBlock] using hg
    subst this
    exact kind_blk hb
theorem Pair.deeds {B L b : Nat} {rows : List Row} {w w1 w2 : World} {u : Value} {k : Nat} {xs : List Value} (h : Pair B L b rows w w1) (hu : w1.ownsRow B 29 4 u k xs) (hg : w1.grownBy w2 u.ownBlock) (hw : w.heap.size = B) : Pair B L b rows w w2 := by
  have ht := Turns.of_grown hg
  refine ⟨h.low.trans (ht.to_below (h.size hw) fun k hk => (own_deed_kind hu k hk).1), h.sk.keep ht fun k hk hs => ?_, h.mp.keep ht fun hs => ?_⟩
  · obtain ⟨_, t, ht2, hk2⟩ := hk
    rw [(own_deed_kind hu k hs).2] at hk2
    injection hk2 with hk2
    revert ht2
    rw [← hk2]
    decide
  · have := (own_deed_kind hu b hs).2
    rw [h.mp.blk] at this
    cases this
theorem deeds_of_owns {B : Nat} {w : World} {u : Value} {ds : List Deed} (h : w.ownsRow B 29 4 u ds.length (flat dc ds)) : ∃ A c, u = .slice A ds.length c ∧ Deeds w A ds := by
  rcases owns_form h with ⟨rfl, h0, _⟩ | ⟨g, cap, rfl, _, _⟩
  · refine ⟨none, 0, by rw [h0], fun k d hd => ?_⟩
    rw [List.length_eq_zero_iff.1 h0] at hd
    cases hd
  · refine ⟨_, cap, rfl, fun k d hd => ⟨g, 0, rfl, ((World.ownsRow.lt h) g rfl).2, ?_⟩⟩
    have hk := (List.getElem?_eq_some_iff.1 hd).1
    have hf := fun j (hj : j < 4) => flat_get dc_length hd hj
    have hc := fun j (hj : j < 4) => (h.cellAt (k * 4 + j) (by omega)).trans (hf j hj)
    simp only [Nat.zero_add]
    exact ⟨hc 0 (by omega), hc 1 (by omega), hc 2 (by omega), hc 3 (by omega)⟩

def FreeRel (B L b : Nat) (rows : List Row) (ds : List Deed) (n : Int) (w : World) (cnt : Nat) (u i : Value) (w1 : World) : Prop :=
  ∃ k : Nat, k + cnt = 80 ∧ k ≤ ds.length ∧ i = .int .i64 (k : Nat) ∧ Pair B L b rows w w1 ∧ w1.ownsRow B 29 4 u k (flat dc ((ds.take k).map (turn n)))

/-- two lists, and the frame -/
structure Two (B L L2 : Nat) (rows rows2 : List Row) (w w1 : World) : Prop where
  low : Below B w w1
  one : Sk B w1 L rows
  two : Sk B w1 L2 rows2
theorem Two.below {B L L2 : Nat} {rows rows2 : List Row} {w w1 w2 : World} (h : Two B L L2 rows rows2 w w1) (hw : B ≤ w.heap.size) (ht : Below w1.heap.size w1 w2) : Two B L L2 rows rows2 w w2 :=
  ⟨h.low.trans (ht.mono (Nat.le_trans hw h.low.size)), h.one.below ht, h.two.below ht⟩

set_option maxRecDepth 100000 in
set_option maxHeartbeats 2000000 in
theorem free_walk (A : Option Addr) (len cap : Nat) (ds : List Deed) (key : ByteArray) (n : Int) (w : World) (hlen : ds.length = len) (hds : Deeds w A ds) (hf : ∀ d ∈ ds, Deed.Fine d) :
    Calls Try.prog 8 #[.slice A len cap, .string key, .int .i64 n] w fun e w' => e = .returned (.bool true) ∧ Below w.heap.size w w' := by
  obtain ⟨B, hBw⟩ : ∃ B, w.heap.size = B := ⟨_, rfl⟩
  have HBW := Lib.hid hBw
  have HDS := Lib.hid (And.intro hlen (And.intro hds hf))
  clear hBw hds hlen hf
  go_enter Try.func8, Try.ntmps8
  go_wp2_with fail
  refine (Wk.works_any _).mono ?_
  rintro e w1 ⟨rfl, hb⟩
  have H1 := Lib.hid (show Below B w w1 from HBW.out ▸ hb)
  clear hb
  go_wp2_with fail
  refine (made_pair A len cap ds B w w1 HDS.out.1 HDS.out.2.1 HDS.out.2.2 HBW.out H1.out).mono ?_
  rintro e w2 ⟨L, b, rfl, hp⟩
  have hrl := mrows_length ds 80
  have HS := Lib.hid (And.intro (lv_rows hp.sk) (kv_mrows n ds 80))
  generalize mrows ds 80 = rows at *
  have H2 := Lib.hid hp
  clear hp H1
  go_wp2_with fail
  go_loopg [9, 10] 80 (fun cnt u i w1 => FreeRel B L b rows ds n w cnt u i w1)
  case atStart => exact ⟨0, by omega, Nat.zero_le _, rfl, H2.out, World.ownsRow_nil _ _ _ _⟩
  case round =>
    clear H2
    obtain ⟨k, hk, hkl, rfl, hp, hown⟩ := hrel
    have HK := Lib.hid (And.intro hk hkl)
    have H3 := Lib.hid (And.intro hp hown)
    have z3 : Hid (B ≤ wr.heap.size) := hp.size HBW.out
    have hlen := HDS.out.1
    by_cases hlt : k < ds.length ∧ k < 80
    · obtain ⟨hl1, hl2⟩ := hlt
      have hget := List.getElem?_eq_getElem hl1
      obtain ⟨g, o, rfl, hg, d0, d1, d2, d3⟩ := HDS.out.2.1 k _ hget
      have hgB : g < B := by have := HBW.out; omega
      have HC := fun (x : Nat) => hp.low.cell (p := ⟨g, x, none⟩) hgB
      have c0 := (HC _).trans d0
      have c1 := (HC _).trans d1
      have c2 := (HC _).trans d2
      have c3 := (HC _).trans d3
      have htk : (ds.take (k + 1)).map (turn n) = (ds.take k).map (turn n) ++ [turn n ds[k]] := by rw [List.take_succ_eq_append_getElem hl1, List.map_append]; rfl
      have HT := Lib.hid htk
      generalize ds[k] = d at *
      clear hk hkl hp hown hget hg hgB HC d0 d1 d2 d3 htk
      have hl3 : k < len := by omega
      go_wp2_with fail
      refine (Br.Bring_any _ _ _ (by omega) (by omega)).mono ?_
      rintro e w' ⟨rfl, rfl⟩
      go_wp2_with fail
      refine (Br.Bring_any _ _ _ (by omega) (by omega)).mono ?_
      rintro e w' ⟨rfl, rfl⟩
      have hst : IntKind.i64.wrap (d.steps % 16 + n % 16) = d.steps % 16 + n % 16 := by
        have h1 : 0 ≤ d.steps % 16 := Int.emod_nonneg _ (by omega)
        have h2 : d.steps % 16 < 16 := Int.emod_lt_of_pos _ (by omega)
        have h3 : 0 ≤ n % 16 := Int.emod_nonneg _ (by omega)
        have h4 : n % 16 < 16 := Int.emod_lt_of_pos _ (by omega)
        exact IntWalk.i64_in _ (by omega)
      have hbel : Below wr.heap.size wr ((wr.alloc (.cells (dc (turn n d)).toArray 29)).alloc (.cells (dc (turn n d)).toArray 29)) :=
        ((Below.refl _ _).alloc (Nat.le_refl _) _).alloc (by simp) _
      have hsz : (wr.alloc (.cells (dc (turn n d)).toArray 29)).heap.size = wr.heap.size + 1 := by simp
      have hblk := Blk.new (wr.alloc (.cells (dc (turn n d)).toArray 29)) 29 (dc (turn n d)).toArray
      rw [hsz] at hblk
      have HPA := Lib.hid (And.intro (H3.out.1.below (HBW.out ▸ Nat.le_refl _) hbel) (And.intro (owns_keep H3.out.2 (S := fun _ => False) (Turns.of_below hbel) fun _ _ h => h) (And.intro hblk (Nat.le_trans z3.out hbel.size))))
      clear hbel hsz hblk
      go_wp2_with (at_builtin; refine wpList_append_deed rfl (.tmp 54) (.tmp 56) rfl B _ k _ rfl HPA.out.2.1 (wr.heap.size + 1) (turn n d) rfl HPA.out.2.2.1 HPA.out.2.2.2 (by omega) ?_)
      intro v2 w4 hown2 hg2
      have hp4 := HPA.out.1.deeds HPA.out.2.1 hg2 HBW.out
      have hrel : FreeRel B L b rows ds n w (79 - k) v2 (.int .i64 ((k : Int) + 1)) w4 := by
        refine ⟨k + 1, by omega, hl1, by simp, hp4, ?_⟩
        rw [HT.out, List.map_take]
        exact hown2
      have HR := Lib.hid hrel
      clear hown2 hg2 hp4 hrel c0 c1 c2 c3
      go_wp2_with fail
      go_roundg (79 - k)
      case measure => have := HK.out; omega
      case rel => exact HR.out
    · have e80 : ds.take k = ds.take 80 := by
        rcases (show k = 80 ∨ k = ds.length by omega) with rfl | rfl
        · rfl
        · rw [List.take_of_length_le (Nat.le_refl _), List.take_of_length_le (by omega)]
      have hl2 : ((ds.take k).map (turn n)).length = k := by rw [List.length_map, List.length_take]; omega
      have hf2 : ∀ d ∈ (ds.take k).map (turn n), Deed.Fine d := fun d hd => by
        obtain ⟨x, hx, rfl⟩ := List.mem_map.1 hd
        exact turn_fine n (HDS.out.2.2 x (List.mem_of_mem_take hx))
      have hkv : kv' rows = kv' (mrows ((ds.take k).map (turn n)) 80) := by rw [e80]; exact HS.out.2
      have hown2 := hown
      have hl3 := mrows_length ((ds.take k).map (turn n)) 80
      generalize (ds.take k).map (turn n) = ds2 at *
      rw [← hl2] at hown2
      obtain ⟨A2, c2, hu2, hds2⟩ := deeds_of_owns hown2
      rw [hl2] at hu2
      subst hu2
      have HD2 := Lib.hid (And.intro hds2 (And.intro hf2 hl2))
      have HKV := Lib.hid (same_of hkv key)
      generalize hrows2 : mrows ds2 80 = rows2 at *
      rcases (show len ≤ k ∨ (k < len ∧ 80 ≤ k) by omega) with hge | ⟨hlt2, hge⟩
      all_goals
        clear hp hown hown2 hds2 hf2 hkv hk hkl hlen hlt e80 hl2
        go_wp2_with fail
        refine (made_walk A2 k c2 ds2 _ HD2.out.2.2 HD2.out.1 HD2.out.2.1).mono ?_
        rintro e w5 ⟨L2, b2, rfl, hs2, _, _, hb⟩
        have hT : Two B L L2 rows rows2 w w5 := ⟨(H3.out.1.below (HBW.out ▸ Nat.le_refl _) hb).low, H3.out.1.sk.below hb, hrows2 ▸ hs2.lower z3.out⟩
        have H5 := Lib.hid hT
        clear hT hb hs2 H3 z3
        go_wp2_with fail
        refine (Get_st B L rows _ key H5.out.one).mono ?_
        rintro e w6 ⟨rfl, hb⟩
        have H6 := Lib.hid (H5.out.below (HBW.out ▸ Nat.le_refl _) hb)
        clear hb H5
        go_wp2_with fail
        refine (Get_st B L2 rows2 _ key H6.out.two).mono ?_
        rintro e w7 ⟨rfl, hb⟩
        rw [← HKV.out.gV, ← HKV.out.gB]
        have H7 := Lib.hid (H6.out.below (HBW.out ▸ Nat.le_refl _) hb)
        clear hb H6
        go_wp2_with fail
        refine (First_st B L rows _ key H7.out.one).mono ?_
        rintro e w8 ⟨rfl, hb⟩
        have H8 := Lib.hid (H7.out.below (HBW.out ▸ Nat.le_refl _) hb)
        clear hb H7
        go_wp2_with fail
        refine (First_st B L2 rows2 _ key H8.out.two).mono ?_
        rintro e w9 ⟨rfl, hb⟩
        rw [← HKV.out.fV, ← HKV.out.fB]
        have H9 := Lib.hid (H8.out.below (HBW.out ▸ Nat.le_refl _) hb)
        clear hb H8
        go_wp2_with fail
        refine (Last_st B L rows _ key H9.out.one).mono ?_
        rintro e w10 ⟨rfl, hb⟩
        have H10 := Lib.hid (H9.out.below (HBW.out ▸ Nat.le_refl _) hb)
        clear hb H9
        go_wp2_with fail
        refine (Last_st B L2 rows2 _ key H10.out.two).mono ?_
        rintro e w11 ⟨rfl, hb⟩
        rw [← HKV.out.lV, ← HKV.out.lB]
        have H11 := Lib.hid (H10.out.below (HBW.out ▸ Nat.le_refl _) hb)
        clear hb H10
        have hrl2 : rows2.length = rows.length := HKV.out.len.symm
        go_wp2_with fail
        refine (Len_st B L rows _ H11.out.one).mono ?_
        rintro e w' ⟨rfl, rfl⟩
        go_wp2_with fail
        refine (Len_st B L2 rows2 _ H11.out.two).mono ?_
        rintro e w' ⟨rfl, rfl⟩
        go_wp2_with fail
        refine (Step_st B L rows _ 1 H11.out.one (by omega)).mono ?_
        rintro e w12 ⟨u, rfl, hu, hb⟩
        rw [stepKeys_all fun x hx => (HS.out.1 x hx).1] at hu
        have hk12 := Ks.of_owns hu
        have H12 := Lib.hid (And.intro (H11.out.below (HBW.out ▸ Nat.le_refl _) hb) hk12)
        clear hb hu hk12 H11
        go_wp2_with fail
        refine (Step_st B L2 rows2 _ 1 H12.out.1.two (by omega)).mono ?_
        rintro e w13 ⟨u2, rfl, hu, hb⟩
        rw [stepKeys_all fun x hx => (lv_rows H12.out.1.two x hx).1, ← HKV.out.keys] at hu
        have HK2 := Lib.hid (And.intro (H12.out.2.below hb).is (Ks.of_owns hu).is)
        have HL := Lib.hid (H12.out.1.below (HBW.out ▸ Nat.le_refl _) hb).low
        clear hb hu H12
        go_wp2_with fail
        refine (Sm.Same_yes _ _ _ _ HK2.out.1 HK2.out.2 (by rw [List.length_map]; omega)).mono ?_
        rintro e w' ⟨rfl, q, rfl⟩
        go_wp2
        go_ret
        exact ⟨rfl, by rw [HBW.out]; exact HL.out.trans (below_drewN' (Below.refl _ _) q)⟩

end St
end Go.Proofs.Ytphfedkfbehigaa
