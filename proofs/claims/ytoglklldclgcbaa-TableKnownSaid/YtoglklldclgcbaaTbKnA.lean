/-
  What TableKnown's walk stands on: slices filled one by one, a table beside such a slice, a table that its own loop turns.
-/
import Derived.Test.YtoglklldclgcbaaTbKn
import Derived.Test.YtoglklldclgcbaaTbDoesWalk
import Derived.Laws.MakeOwn
import Derived.Laws.BytesString
import Derived.ArgAppend
namespace Go.Proofs.Ytoglklldclgcbaa
open Go.RowKit Go.Shelf Sk
namespace Tb
attribute [local go_sem] Oper.semAt_some

def mkO (n : Nat) : Array Value := madeCells #[.string ⟨#[]⟩, .string ⟨#[]⟩, .bool false] (n * 3)
theorem mkO_size (n : Nat) : (mkO n).size = n * 3 := size_madeCells _ _
theorem op_parts : (Try.prog.info? 32).map (fun i => (i.zero, i.size, i.bytes)) = some (some (.agg #[.string ⟨#[]⟩, .string ⟨#[]⟩, .bool false]), 3, 40) := by kernel_rfl
theorem mk_run (n : Nat) (hn : n ≤ 1000) (W : World) : (Instr.makeSlice 27 (.int .i64 (n : Nat)) (.int .i64 (n : Nat))).run Try.prog W = .ok (.slice (some ⟨W.heap.size, 0, none⟩) n n) (W.alloc (.cells (mkO n) 32)) := by
  obtain ⟨i0, hi0, hz0, hz1, hz2⟩ := info_parts op_parts
  have hr := run_make (P := Try.prog) W 27 32 i0 _ Try.underlying27 hi0 hz0 .i64 .i64 n n (by omega) (Int.le_refl _) (by rw [hz2]; omega) (by omega)
  simp only [Int.toNat_natCast] at hr
  rw [hr, hz1]
  rfl

theorem str_run (W : World) (k : Nat) : (convert 61 9 (.slice (some ⟨W.heap.size, 0, none⟩) 1 1)).run Try.prog (W.alloc (.cells #[.int .u8 (k : Nat)] 5)) = .ok (.string (U k)) (W.alloc (.cells #[.int .u8 (k : Nat)] 5)) := by
  rw [run_convert_bytes_string _ _ _ 5 _ _ _ rfl rfl rfl]
  have hl : (loadCells ⟨W.heap.size, 0, none⟩ 1).run Try.prog (W.alloc (.cells #[.int .u8 (k : Nat)] 5)) = .ok ([(k : Int)].map (Value.int .u8)).toArray (W.alloc (.cells #[.int .u8 (k : Nat)] 5)) := by
    have hc : (W.alloc (.cells #[.int .u8 (k : Nat)] 5)).cell? ⟨W.heap.size, 0, none⟩ = some (.int .u8 (k : Nat)) := (Boxed.new W _ _).cell
    simp [loadCells, go_sem, hc]
  rw [run_bytesToString _ _ _ _ [(k : Int)] hl]
  rfl
/-- changes laid one by one into the block g -/
structure FillR (f : Nat → Chg) (g : Nat) (w1 : World) (cnt : Nat) (s : Value) (W : World) : Prop where
  ex : ∃ k cs, k + cnt = 128 ∧ s = .int .i64 (k : Nat) ∧ Blk W g 32 cs ∧ cs.size = 384 ∧ (∀ i, i < k → cs[i * 3]? = some (.string (f i).k) ∧ cs[i * 3 + 1]? = some (.string (f i).v) ∧ cs[i * 3 + 2]? = some (.bool (f i).d))
  fr : Turns (fun j => j = g) w1 W
theorem fill_step {f : Nat → Chg} {g : Nat} {w1 W : World} {k : Nat} {cs : Array Value} (hk : k < 128) (hb : Blk W g 32 cs) (hcs : cs.size = 384) (hall : ∀ i, i < k → cs[i * 3]? = some (.string (f i).k) ∧ cs[i * 3 + 1]? = some (.string (f i).v) ∧ cs[i * 3 + 2]? = some (.bool (f i).d)) (hfr : Turns (fun j => j = g) w1 W) (o : Obj) :
    FillR f g w1 (128 - (k + 1)) (.int .i64 ((k : Int) + 1)) ((((W.alloc o).setCell ⟨g, k * 3, none⟩ (.string (f k).k)).setCell ⟨g, k * 3 + 1, none⟩ (.string (f k).v)).setCell ⟨g, k * 3 + 2, none⟩ (.bool (f k).d)) := by
  refine ⟨⟨k + 1, _, by omega, by simp, (((hb.alloc o).set_ (k * 3) (.string (f k).k)).set_ (k * 3 + 1) (.string (f k).v)).set_ (k * 3 + 2) (.bool (f k).d), by simp [hcs], fun i hi => ?_⟩, (((hfr.alloc o).setCell (fun _ => rfl) _).setCell (fun _ => rfl) _).setCell (fun _ => rfl) _⟩
  by_cases e : i = k
  · subst e
    refine ⟨?_, ?_, ?_⟩
    · rw [Array.getElem?_setIfInBounds_ne (by omega), Array.getElem?_setIfInBounds_ne (by omega), Array.getElem?_setIfInBounds_self_of_lt (by omega)]
    · rw [Array.getElem?_setIfInBounds_ne (by omega), Array.getElem?_setIfInBounds_self_of_lt (by simp; omega)]
    · rw [Array.getElem?_setIfInBounds_self_of_lt (by simp; omega)]
  · have := hall i (by omega)
    refine ⟨?_, ?_, ?_⟩
    · rw [Array.getElem?_setIfInBounds_ne (by omega), Array.getElem?_setIfInBounds_ne (by omega), Array.getElem?_setIfInBounds_ne (by omega)]
      exact this.1
    · rw [Array.getElem?_setIfInBounds_ne (by omega), Array.getElem?_setIfInBounds_ne (by omega), Array.getElem?_setIfInBounds_ne (by omega)]
      exact this.2.1
    · rw [Array.getElem?_setIfInBounds_ne (by omega), Array.getElem?_setIfInBounds_ne (by omega), Array.getElem?_setIfInBounds_ne (by omega)]
      exact this.2.2
theorem FillR.ops {f : Nat → Chg} {g : Nat} {w1 W : World} {s : Value} (h : FillR f g w1 0 s W) {l : List Chg} (hl : l.length = 128) (hg : ∀ k, k < 128 → l[k]? = some (f k)) : Ops W (some ⟨g, 0, none⟩) 128 128 l := by
  obtain ⟨k, cs, hk, _, hb, _, hall⟩ := h.ex
  refine ⟨hl, Nat.le_refl _, (fun e => by cases e), fun i x hx => ?_⟩
  have hi : i < 128 := by have := (List.getElem?_eq_some_iff.1 hx).1; omega
  have hxf := hg i hi
  rw [hx] at hxf
  injection hxf with hxf
  subst hxf
  have := hall i (by omega)
  refine ⟨g, 0, rfl, ?_, ?_, ?_⟩
  · rw [hb.cell, Nat.zero_add]; exact this.1
  · rw [hb.cell, Nat.zero_add]; exact this.2.1
  · rw [hb.cell, Nat.zero_add]; exact this.2.2
theorem FillR.blk {f : Nat → Chg} {g : Nat} {w1 W : World} {n : Nat} {s : Value} (h : FillR f g w1 n s W) : ∃ cs, Blk W g 32 cs ∧ cs.size = 384 := by
  obtain ⟨_, cs, _, _, hb, hc, _⟩ := h.ex
  exact ⟨cs, hb, hc⟩

/-- an append whose run is known -/
theorem append_run {F : Fence} {n : Nat} {P : Program} {w : World} {ops : Array Oper} {rest : List Oper} {o : Oper} {a : Act} {Q : Exit → Act → World → Prop} (hg : o.guard = none) (s x : Operand) (t : TypeId)
    (hop : o.op = Op.call { callee := Callee.builtin Builtin.append, args := #[s, x], argTypes := #[t, t] }) {v1 v2 v' : Value} {w' : World} (hs : a.eval s = v1) (hx : a.eval x = v2) (hr : (Builtin.append_ #[t, t] o.type #[v1, v2]).run P w = .ok v' w')
    (hK : wpListIn F n P ops Q rest (a.put o.dst v') w') : wpListIn F n P ops Q (o :: rest) a w := by
  refine wpListIn_plain hg fun K hK' => ?_
  unfold Oper.wpIn
  refine ⟨?_, ?_⟩
  · simp [Oper.about, hop, resolve, Target.leads, Sem.run_pure]
  · rw [Oper.semAt_plain F _ _ (by rw [hop]; intro c hc'; cases hc')]
    simp [execOp, hop, resolve, invoke, builtin, hs, hx, hr, Result.andThen]
    exact hK' _ _ hK

theorem append_op {F : Fence} {n : Nat} {P : Program} {w : World} {o : Oper} {a : Act} {K : Act → World → Prop} {Q : Exit → Act → World → Prop} (s x : Operand) (t : TypeId)
    (hop : o.op = Op.call { callee := Callee.builtin Builtin.append, args := #[s, x], argTypes := #[t, t] }) {v1 v2 v' : Value} {w' : World} (hs : a.eval s = v1) (hx : a.eval x = v2) (hr : (Builtin.append_ #[t, t] o.type #[v1, v2]).run P w = .ok v' w')
    (hK : K (a.put o.dst v') w') : o.wpIn F n P a w K Q := by
  unfold Oper.wpIn
  refine ⟨?_, ?_⟩
  · simp [Oper.about, hop, resolve, Target.leads, Sem.run_pure]
  · rw [Oper.semAt_plain F _ _ (by rw [hop]; intro c hc'; cases hc')]
    simp [execOp, hop, resolve, invoke, builtin, hs, hx, hr, Result.andThen]
    exact hK
theorem app_one {W : World} {g len cap : Nat} {l : List Chg} (ho : Ops W (some ⟨g, 0, none⟩) len cap l) (hfull : cap < len + 1) (hl : len ≤ 1000) (x : Chg) (g2 : Nat) (hx : ∀ j u, (opC x)[j]? = some u → W.cell? ⟨g2, j, none⟩ = some u) :
    ∃ A' c' w', (Builtin.append_ #[27, 27] 27 #[.slice (some ⟨g, 0, none⟩) len cap, .slice (some ⟨g2, 0, none⟩) 1 1]).run Try.prog W = .ok (.slice A' (len + 1) c') w' ∧ Ops w' A' (len + 1) c' (l ++ [x]) ∧ (∀ g' o, A' = some ⟨g', o, none⟩ → W.heap.size ≤ g') ∧ Below W.heap.size W w' := by
  obtain ⟨i0, hi0, hz0, hz1, hz2⟩ := info_parts op_parts
  obtain ⟨v', w', hr, hown, hg⟩ := run_append_arg_grows (P := Try.prog) W 27 27 32 i0 _ 3 40 Try.underlying27 hi0 hz0 hz1 hz2 rfl (by decide) ⟨g, 0, none⟩ len cap (flat opC l) (by rw [flat_length opC_len, ho.hlen]) (fun j u hj => ho.src _ rfl j u hj) ⟨g2, 0, none⟩ 1 1 (opC x) rfl (fun j u hj => by rw [addr_add, Nat.zero_add]; exact hx j u hj) hfull (by unfold maxLen; omega) (by omega)
  obtain ⟨A', c', rfl, hops, hb⟩ := Ops.of_owns (l := l ++ [x]) (b := W.heap.size) (n := len + 1) (v := v') (by rw [flat_append]; simpa [flat] using hown) (by rw [List.length_append, ho.hlen]; rfl)
  exact ⟨A', c', w', hr, hops, fun g' o e => (hb g' o e).1, (Below.refl _ _).grown hg (Nat.le_refl _) (fun k hk => by cases hk)⟩
theorem app_nil {W : World} {g len cap : Nat} {l : List Chg} (ho : Ops W (some ⟨g, 0, none⟩) len cap l) (hl : len ≤ 1000) :
    ∃ A' c' w', (Builtin.append_ #[27, 27] 27 #[.slice none 0 0, .slice (some ⟨g, 0, none⟩) len cap]).run Try.prog W = .ok (.slice A' len c') w' ∧ w'.ownsRow W.heap.size 32 3 (.slice A' len c') len (flat opC l) ∧ Below W.heap.size W w' := by
  obtain ⟨i0, hi0, hz0, hz1, hz2⟩ := info_parts op_parts
  obtain ⟨v', w', hr, hown, hg, _⟩ := run_append_own (P := Try.prog) W W.heap.size 27 27 32 i0 _ 3 40 Try.underlying27 hi0 hz0 hz1 hz2 rfl (by decide) (.slice none 0 0) 0 [] (World.ownsRow_nil _ _ _ _) ⟨g, 0, none⟩ len cap (flat opC l) (by rw [flat_length opC_len, ho.hlen]) (fun j u hj => ho.src _ rfl j u hj) (flat_one opC_one _) (by unfold maxLen; omega) (by omega) (Nat.le_refl _)
  obtain ⟨A', c', rfl, _, _⟩ := Ops.of_owns (l := l) (b := W.heap.size) (n := len) (v := v') (by simpa using hown) ho.hlen
  exact ⟨A', c', w', by rw [hr], by simpa using hown, (Below.refl _ _).grown hg (Nat.le_refl _) (fun k hk => by cases hk)⟩
theorem app_own {W : World} {B len : Nat} {v : Value} {l : List Chg} (ho : W.ownsRow B 32 3 v len (flat opC l)) (hn : l.length = len) (hB : B ≤ W.heap.size) (hl : len ≤ 1000) (x : Chg) (g2 : Nat) (hx : ∀ j u, (opC x)[j]? = some u → W.cell? ⟨g2, j, none⟩ = some u) :
    ∃ A' c' w', (Builtin.append_ #[27, 27] 27 #[v, .slice (some ⟨g2, 0, none⟩) 1 1]).run Try.prog W = .ok (.slice A' (len + 1) c') w' ∧ Ops w' A' (len + 1) c' (l ++ [x]) ∧ (∀ g' o, A' = some ⟨g', o, none⟩ → B ≤ g') ∧ Below B W w' := by
  obtain ⟨i0, hi0, hz0, hz1, hz2⟩ := info_parts op_parts
  obtain ⟨v', w', hr, hown, hg, _⟩ := run_append_own (P := Try.prog) W B 27 27 32 i0 _ 3 40 Try.underlying27 hi0 hz0 hz1 hz2 rfl (by decide) v len (flat opC l) ho ⟨g2, 0, none⟩ 1 1 (opC x) rfl (fun j u hj => by rw [addr_add, Nat.zero_add]; exact hx j u hj) (opC_one x) (by unfold maxLen; omega) (by omega) hB
  obtain ⟨A', c', rfl, hops, hb⟩ := Ops.of_owns (l := l ++ [x]) (b := B) (n := len + 1) (v := v') (by rw [flat_append]; simpa [flat] using hown) (by rw [List.length_append, hn]; rfl)
  exact ⟨A', c', w', hr, hops, fun g' o e => (hb g' o e).1, (Below.refl _ _).grown hg hB (fun k hk => (ho.lt k hk).1)⟩
theorem new_cells (W : World) (x : Chg) (T : TypeId) : ∀ j u, (opC x)[j]? = some u → (W.alloc (.cells #[.string x.k, .string x.v, .bool x.d] T)).cell? ⟨W.heap.size, j, none⟩ = some u := fun j u hj => by
  rw [World.cell?_alloc_new]
  simpa [opC] using hj
theorem Ops.cut {W : World} {A : Option Addr} {len cap : Nat} {l : List Chg} (h : Ops W A len cap l) (n : Nat) (hn : n ≤ len) : Ops W A n cap (l.take n) :=
  ⟨by rw [List.length_take, h.hlen]; omega, Nat.le_trans hn h.hcap, h.nil, fun k x hx => by
    rw [List.getElem?_take] at hx
    split at hx
    · exact h.cell k x hx
    · cases hx⟩

/-- the table t beside the slice of block g; all since w lies above g -/
structure KnS (g t : Nat) (r : List Row) (l : List Chg) (w W : World) : Prop where
  tab : ∃ P, At P W t r ∧ ∀ k, P k → g < k
  blk : ∃ cs, Blk W g 32 cs ∧ cs.size = 384
  ops : Ops W (some ⟨g, 0, none⟩) 128 128 l
  bel : Below g w W
section
variable {g t : Nat} {r : List Row} {l : List Chg} {w W W' : World}
theorem KnS.lt (h : KnS g t r l w W) : g < W.heap.size := by
  obtain ⟨cs, hb, _⟩ := h.blk
  exact hb.lt
theorem KnS.below (h : KnS g t r l w W) (hb : Below W.heap.size W W') : KnS g t r l w W' := by
  obtain ⟨P, hP, hg⟩ := h.tab
  obtain ⟨cs, hk, hc⟩ := h.blk
  exact ⟨⟨P, hP.below hb, hg⟩, ⟨cs, hk.below hb h.lt, hc⟩, h.ops.below hb, h.bel.trans (hb.mono (Nat.le_of_lt h.lt))⟩
theorem KnS.apply (h : KnS g t r l w W) (hb : Below W.heap.size W W') {A : Option Addr} {len cap : Nat} {l' : List Chg} (ho : Ops W' A len cap l') (hA : ∀ g' o, A = some ⟨g', o, none⟩ → l' ≠ [] → g' = g ∨ W.heap.size ≤ g') (hr : r.length ≤ 900000) :
    Calls Try.prog 14 #[TP t, .slice A len cap] W' fun e w' => e = .returned (.int .i64 (chkO l')) ∧ KnS g t (appT l' r) l w w' := by
  obtain ⟨P, hP, hg⟩ := h.tab
  have h' := h.below hb
  refine (Apply_at (hP.below hb) ho (fun g' o e hl hp => ?_) hr).mono fun e w' ⟨he, ht, hf⟩ => ⟨he, ⟨⟨_, ht, fun k hk => ?_⟩, ?_, h'.ops.turns hf (fun g' o e _ hp => ?_), h'.bel.trans (hf.to_below (Nat.le_of_lt h'.lt) (fun k hk => Nat.le_of_lt (hg k hk)))⟩⟩
  · rcases hA g' o e hl with rfl | hle
    · exact Nat.lt_irrefl _ (hg _ hp)
    · have := hP.lt g' hp; omega
  · rcases hk with hk | hk
    · exact hg k hk
    · have := h'.lt; exact Nat.lt_of_lt_of_le this hk.1
  · obtain ⟨cs, hk, hc⟩ := h'.blk
    exact ⟨cs, hf.blk hk (fun hp => Nat.lt_irrefl _ (hg _ hp)), hc⟩
  · injection e with e
    injection e with e
    subst e
    exact Nat.lt_irrefl _ (hg _ hp)
theorem KnS.fill (h : KnS g t r l w W) {f : Nat → Chg} {s : Value} (hf : FillR f g W 0 s W') {l2 : List Chg} (hl : l2.length = 128) (hg2 : ∀ k, k < 128 → l2[k]? = some (f k)) : KnS g t r l2 w W' := by
  obtain ⟨P, hP, hg⟩ := h.tab
  exact ⟨⟨P, hP.keep hf.fr (fun k hk e => by subst e; exact Nat.lt_irrefl _ (hg _ hk)), hg⟩, hf.blk, hf.ops hl hg2, h.bel.trans (hf.fr.to_below (Nat.le_of_lt h.lt) (fun k hk => Nat.le_of_eq hk.symm))⟩
theorem KnS.new {w1 w2 : World} {f : Nat → Chg} {s : Value} (hf : FillR f g w1 0 s W) (hw : Below g w w1) (hw1 : g ≤ w1.heap.size) (hl : l.length = 128) (hg2 : ∀ k, k < 128 → l[k]? = some (f k)) (ht : At (made W.heap.size w2.heap.size) w2 t []) (hb : Below W.heap.size W w2) : KnS g t [] l w w2 := by
  obtain ⟨cs, hk, hc⟩ := hf.blk
  have hbw : Below g w W := hw.trans (hf.fr.to_below hw1 (fun k hk => Nat.le_of_eq hk.symm))
  exact ⟨⟨_, ht, fun k h => Nat.lt_of_lt_of_le hk.lt h.1⟩, ⟨cs, hk.below hb hk.lt, hc⟩, (hf.ops hl hg2).below hb, hbw.trans (hb.mono (Nat.le_of_lt hk.lt))⟩
end

end Tb
end Go.Proofs.Ytoglklldclgcbaa
