/-
  All and Back of a table that stays as it is: their contracts in the kit's form.
-/
import Derived.Test.YtoglklldclgcbaaTbFlt
import Derived.Test.YtoglklldclgcbaaFlat
namespace Go.Proofs.Ytoglklldclgcbaa
open Go.RowKit Go.Shelf Sk
namespace Tb
attribute [local go_sem] Oper.semAt_some

set_option maxHeartbeats 400000 in
theorem All_tb (t : Nat) (frm tt : ByteArray) (w : World) :
    Calls Try.prog 26 #[TP t, .string frm, .string tt] w fun e w' => e = .returned (.func (.func 43) #[] #[.pointer (some ⟨w.heap.size, 0, none⟩), .pointer (some ⟨w.heap.size + 1, 0, none⟩), .pointer (some ⟨w.heap.size + 2, 0, none⟩)]) ∧
      w' = ((w.alloc (.cells #[TP t] 23)).alloc (.cells #[.string frm] 9)).alloc (.cells #[.string tt] 9) := by
  go_enter Try.func26, Try.ntmps26
  go_wp2
  go_ret
  exact ⟨rfl, rfl⟩
set_option maxHeartbeats 400000 in
theorem Back_tb (t : Nat) (frm tt : ByteArray) (w : World) :
    Calls Try.prog 29 #[TP t, .string frm, .string tt] w fun e w' => e = .returned (.func (.func 45) #[] #[.pointer (some ⟨w.heap.size, 0, none⟩), .pointer (some ⟨w.heap.size + 2, 0, none⟩), .pointer (some ⟨w.heap.size + 1, 0, none⟩)]) ∧
      w' = ((w.alloc (.cells #[TP t] 23)).alloc (.cells #[.string frm] 9)).alloc (.cells #[.string tt] 9) := by
  go_enter Try.func29, Try.ntmps29
  go_wp2
  go_ret
  exact ⟨rfl, rfl⟩

theorem nextA_some {frm tt : ByteArray} {rows pre : List Row} {x : Row} (h : nextA frm tt rows pre = some x) : ∃ r, hi Row.k (atA frm pre) rows = x :: r ∧ belowT tt x = true := by
  unfold nextA at h
  cases e : hi Row.k (atA frm pre) rows with
  | nil => rw [e] at h; cases h
  | cons z r =>
    rw [e] at h
    change (if belowT tt z = true then some z else none) = some x at h
    split at h
    · injection h with h; subst h; exact ⟨r, rfl, by assumption⟩
    · cases h
theorem nextA_none {frm tt : ByteArray} {rows pre : List Row} (h : nextA frm tt rows pre = none) : (hi Row.k (atA frm pre) rows).takeWhile (belowT tt) = [] := by
  unfold nextA at h
  cases e : hi Row.k (atA frm pre) rows with
  | nil => rfl
  | cons z r =>
    rw [e] at h
    change (if belowT tt z = true then some z else none) = none at h
    split at h
    · cases h
    · rename_i h2
      rw [List.takeWhile_cons, if_neg h2]
theorem turnsK_t {S : Nat → Prop} {A B C : World} (h : Turns S A B) (k : Turns S B C) : Turns S A C := h.trans k (fun _ _ h => h)
theorem turnsK_b {S : Nat → Prop} {w : World} (hS : ∀ l, w.heap.size ≤ l → S l) (W : World) (l : Nat) (o o' : Obj) (hl : w.heap.size ≤ l) (_ : W.heap[l]? = some o) (_ : o.isCells = false) (_ : o.isWalk = false) : Turns S W (W.putObj l o') :=
  (Turns.of_grown (grownBy_putObj' W l o')).mono (fun k _ e => by injection e with e; rw [← e]; exact hS l hl)

theorem All_stops (n : Nat) (hn : 1 ≤ n) (bt bf bo t : Nat) (S : Nat → Prop) (frm tt : ByteArray) (P : Nat → Prop) (rows : List Row) (w : World) (h : Tab P w t rows) (hP : ∀ k, P k → k < w.heap.size → ¬ S k)
    (hbt : w.cell? ⟨bt, 0, none⟩ = some (TP t)) (hbf : w.cell? ⟨bf, 0, none⟩ = some (.string frm)) (hbo : w.cell? ⟨bo, 0, none⟩ = some (.string tt)) (hb1 : ¬ S bt) (hb2 : ¬ S bf) (hb3 : ¬ S bo)
    (hk : ∀ x ∈ rows, x.k.size ≤ reachBytes) :
    SeqStopsK Fence.wide n Try.prog 43 #[.pointer (some ⟨bt, 0, none⟩), .pointer (some ⟨bf, 0, none⟩), .pointer (some ⟨bo, 0, none⟩)] encs (Turns S) (fun ys => ys = btw frm tt rows) (fun pre => pre <+: btw frm tt rows) rows.length w := fun l J Jx W hW hJ hJx hY h0 => by
  have hTW : Tab (fun k => P k ∧ k < w.heap.size) W t rows := (h.widen (fun k hk hl => ⟨hk, hl⟩)).below hW
  have hcW : ∀ b v, w.cell? ⟨b, 0, none⟩ = some v → W.cell? ⟨b, 0, none⟩ = some v := fun b v hc => (hW.cell (p := ⟨b, 0, none⟩) (World.block_lt_of_cell? w _ hc)).trans hc
  have hcK : ∀ b v W', Turns S W W' → ¬ S b → w.cell? ⟨b, 0, none⟩ = some v → W'.cell? ⟨b, 0, none⟩ = some v := fun b v W' ht hb hc => (World.cell?_of_block (w := W) (a := ⟨b, 0, none⟩) (ht.block b (World.block_lt_of_cell? W _ (hcW b v hc)) hb)).trans (hcW b v hc)
  have hlen : (btw frm tt rows).length ≤ rows.length := by
    unfold btw
    exact Nat.le_trans (List.takeWhile_sublist _).length_le (List.dropWhile_sublist _).length_le
  have hstep : ∀ pre x W', (J pre W' ∧ Turns S W W' ∧ btw frm tt rows = pre ++ (hi Row.k (atA frm pre) rows).takeWhile (belowT tt)) → nextA frm tt rows pre = some x → btw frm tt rows = (pre ++ [x]) ++ (hi Row.k (atA frm (pre ++ [x])) rows).takeWhile (belowT tt) := fun pre x W' hj hx => by
    obtain ⟨r, hr, hbx⟩ := nextA_some hx
    rw [atA_snoc, hi_next h.srt hr, hj.2.2, hr, List.takeWhile_cons, if_pos hbx]
    simp
  have hlt : ∀ pre x W', (J pre W' ∧ Turns S W W' ∧ btw frm tt rows = pre ++ (hi Row.k (atA frm pre) rows).takeWhile (belowT tt)) → nextA frm tt rows pre = some x → pre.length < rows.length := fun pre x W' hj hx => by
    have h1 := congrArg List.length (hstep pre x W' hj hx)
    simp at h1
    omega
  refine (All1_in n hn l bt bf bo t frm tt rows.length (fun _ => rows) (fun pre W' => J pre W' ∧ Turns S W W' ∧ btw frm tt rows = pre ++ (hi Row.k (atA frm pre) rows).takeWhile (belowT tt)) (fun pre W' => Jx pre W' ∧ pre <+: btw frm tt rows)
    ?_ ?_ ?_ ?_ ?_ W ⟨h0, Turns.refl _ _, rfl⟩).mono ?_
  · rintro pre A B ⟨hj, hb, hc⟩ hg
    exact ⟨hJ pre A B none hj hg (fun r e => by cases e), hb.trans (Turns.of_grown hg) (fun k _ e => by cases e), hc⟩
  · rintro pre W' ⟨_, hb, _⟩
    exact ⟨⟨_, hTW.keep hb (fun k hk _ => hP k hk.1 hk.2)⟩, hcK bt _ W' hb hb1 hbt, hcK bf _ W' hb hb2 hbf, hcK bo _ W' hb hb3 hbo⟩
  · exact fun _ _ _ => hk
  · exact hlt
  · rintro pre x W' hj hx
    obtain ⟨fn, tmps, assign, body, hy, hR⟩ := hY pre x W' hj.1 (hlt pre x W' hj hx)
    refine ⟨fn, tmps, assign, body, hy, hR.mono ?_⟩
    rintro e W3 (⟨he, hj3, hk3⟩ | ⟨he, hjx⟩)
    · exact .inl ⟨he, hj3, hj.2.1.trans hk3 (fun _ _ h => h), hstep pre x W' hj hx⟩
    · exact .inr ⟨he, hjx, ⟨_, (hstep pre x W' hj hx).symm⟩⟩
  · rintro e W' ⟨hv, ⟨xs, hx, hj, _, hc⟩ | ⟨pre, hjx, hp⟩⟩
    · refine ⟨hv, .inl ⟨xs, ?_, hj⟩⟩
      rw [nextA_none hx, List.append_nil] at hc
      exact hc.symm
    · exact ⟨hv, .inr ⟨pre, hp, hjx⟩⟩

theorem nextB_some {frm tt : ByteArray} {rows pre : List Row} {x : Row} (h : nextB frm tt rows pre = some x) : (lastL (atB tt pre) rows).getLast? = some x ∧ kl x.k frm = false := by
  unfold nextB at h
  cases e : (lastL (atB tt pre) rows).getLast? with
  | none => rw [e] at h; cases h
  | some z =>
    rw [e] at h
    change (if kl z.k frm = true then none else some z) = some x at h
    split at h
    · cases h
    · injection h with h; subst h; exact ⟨rfl, by simpa using (by assumption : ¬ kl z.k frm = true)⟩
theorem nextB_none {frm tt : ByteArray} {rows pre : List Row} (h : nextB frm tt rows pre = none) : (lastL (atB tt pre) rows).reverse.takeWhile (fun x => !kl x.k frm) = [] := by
  unfold nextB at h
  cases e : (lastL (atB tt pre) rows).getLast? with
  | none => rw [List.getLast?_eq_none_iff.1 e]; rfl
  | some z =>
    rw [e] at h
    change (if kl z.k frm = true then none else some z) = none at h
    obtain ⟨i, hi'⟩ := List.getLast?_eq_some_iff.1 e
    rw [hi', List.reverse_append, List.reverse_singleton, List.singleton_append, List.takeWhile_cons]
    split at h
    · rename_i h2; rw [h2]; rfl
    · cases h

theorem Back_stops (n : Nat) (hn : 1 ≤ n) (bt bf bo t : Nat) (S : Nat → Prop) (frm tt : ByteArray) (P : Nat → Prop) (rows : List Row) (w : World) (h : Tab P w t rows) (hP : ∀ k, P k → k < w.heap.size → ¬ S k)
    (hbt : w.cell? ⟨bt, 0, none⟩ = some (TP t)) (hbf : w.cell? ⟨bf, 0, none⟩ = some (.string frm)) (hbo : w.cell? ⟨bo, 0, none⟩ = some (.string tt)) (hb1 : ¬ S bt) (hb2 : ¬ S bf) (hb3 : ¬ S bo)
    (hne : ∀ x ∈ rows, x.k ≠ ⟨#[]⟩) :
    SeqStopsK Fence.wide n Try.prog 45 #[.pointer (some ⟨bt, 0, none⟩), .pointer (some ⟨bo, 0, none⟩), .pointer (some ⟨bf, 0, none⟩)] encs (Turns S) (fun ys => ys = (flt frm tt rows).reverse) (fun pre => pre <+: (flt frm tt rows).reverse) rows.length w := fun l J Jx W hW hJ hJx hY h0 => by
  have hTW : Tab (fun k => P k ∧ k < w.heap.size) W t rows := (h.widen (fun k hk hl => ⟨hk, hl⟩)).below hW
  have hcW : ∀ b v, w.cell? ⟨b, 0, none⟩ = some v → W.cell? ⟨b, 0, none⟩ = some v := fun b v hc => (hW.cell (p := ⟨b, 0, none⟩) (World.block_lt_of_cell? w _ hc)).trans hc
  have hcK : ∀ b v W', Turns S W W' → ¬ S b → w.cell? ⟨b, 0, none⟩ = some v → W'.cell? ⟨b, 0, none⟩ = some v := fun b v W' ht hb hc => (World.cell?_of_block (w := W) (a := ⟨b, 0, none⟩) (ht.block b (World.block_lt_of_cell? W _ (hcW b v hc)) hb)).trans (hcW b v hc)
  have hlen : (flt frm tt rows).reverse.length ≤ rows.length := by
    rw [List.length_reverse]
    exact List.length_filter_le _ _
  have hstep : ∀ pre x W', (J pre W' ∧ Turns S W W' ∧ (flt frm tt rows).reverse = pre ++ (lastL (atB tt pre) rows).reverse.takeWhile (fun x => !kl x.k frm)) → nextB frm tt rows pre = some x → (flt frm tt rows).reverse = (pre ++ [x]) ++ (lastL (atB tt (pre ++ [x])) rows).reverse.takeWhile (fun x => !kl x.k frm) := fun pre x W' hj hx => by
    obtain ⟨hr, hbx⟩ := nextB_some hx
    rw [atB_snoc, hj.2.2, lastL_step h.srt hr (hne x (lastL_mem hr)), List.reverse_append, List.reverse_singleton, List.singleton_append, List.takeWhile_cons, hbx]
    simp
  have hlt : ∀ pre x W', (J pre W' ∧ Turns S W W' ∧ (flt frm tt rows).reverse = pre ++ (lastL (atB tt pre) rows).reverse.takeWhile (fun x => !kl x.k frm)) → nextB frm tt rows pre = some x → pre.length < rows.length := fun pre x W' hj hx => by
    have h1 := congrArg List.length (hstep pre x W' hj hx)
    rw [List.length_append, List.length_append, List.length_singleton] at h1
    omega
  refine (Back1_in n hn l bt bf bo t frm tt rows.length (fun _ => rows) (fun pre W' => J pre W' ∧ Turns S W W' ∧ (flt frm tt rows).reverse = pre ++ (lastL (atB tt pre) rows).reverse.takeWhile (fun x => !kl x.k frm)) (fun pre W' => Jx pre W' ∧ pre <+: (flt frm tt rows).reverse)
    ?_ ?_ ?_ ?_ W ⟨h0, Turns.refl _ _, bck_start h.srt frm tt⟩).mono ?_
  · rintro pre A B ⟨hj, hb, hc⟩ hg
    exact ⟨hJ pre A B none hj hg (fun r e => by cases e), hb.trans (Turns.of_grown hg) (fun k _ e => by cases e), hc⟩
  · rintro pre W' ⟨_, hb, _⟩
    exact ⟨⟨_, hTW.keep hb (fun k hk _ => hP k hk.1 hk.2)⟩, hcK bt _ W' hb hb1 hbt, hcK bf _ W' hb hb2 hbf, hcK bo _ W' hb hb3 hbo⟩
  · exact hlt
  · rintro pre x W' hj hx
    obtain ⟨fn, tmps, assign, body, hy, hR⟩ := hY pre x W' hj.1 (hlt pre x W' hj hx)
    refine ⟨fn, tmps, assign, body, hy, hR.mono ?_⟩
    rintro e W3 (⟨he, hj3, hk3⟩ | ⟨he, hjx⟩)
    · exact .inl ⟨he, hj3, hj.2.1.trans hk3 (fun _ _ h => h), hstep pre x W' hj hx⟩
    · exact .inr ⟨he, hjx, ⟨_, (hstep pre x W' hj hx).symm⟩⟩
  · rintro e W' ⟨hv, ⟨xs, hx, hj, _, hc⟩ | ⟨pre, hjx, hp⟩⟩
    · refine ⟨hv, .inl ⟨xs, ?_, hj⟩⟩
      rw [nextB_none hx, List.append_nil] at hc
      exact hc.symm
    · exact ⟨hv, .inr ⟨pre, hp, hjx⟩⟩

end Tb
end Go.Proofs.Ytoglklldclgcbaa
