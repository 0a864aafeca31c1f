/-
  Plain facts on batches' rows; a table and the reference's table side by side; walk: the laws' 'turned'.
-/
import Derived.Test.YtoglklldclgcbaaTbArgs
namespace Go.Proofs.Ytoglklldclgcbaa
open Go.RowKit Sk
namespace Tb

theorem mem_restT {key : ByteArray} {r : List Row} {x : Row} (h : x ∈ restT key r) : x ∈ hi Row.k key r := by
  unfold restT at h
  cases e : hi Row.k key r with
  | nil => rw [e] at h; cases h
  | cons z q =>
    rw [e] at h
    change x ∈ (if (z.k.toList == key.toList) = true then q else z :: q) at h
    split at h
    · exact List.mem_cons_of_mem _ h
    · exact h
theorem mem_dropT {key : ByteArray} {r : List Row} {x : Row} (h : x ∈ dropT key r) : x ∈ r := by
  unfold dropT at h
  rw [← lo_hi Row.k key r]
  rcases List.mem_append.1 h with h | h
  · exact List.mem_append_left _ h
  · exact List.mem_append_right _ (mem_restT h)
theorem mem_putT {key v : ByteArray} {r : List Row} {x : Row} (h : x ∈ putT key v r) : x = ⟨key, v⟩ ∨ x ∈ r := by
  unfold putT at h
  rw [← lo_hi Row.k key r]
  rcases List.mem_append.1 h with h | h
  · exact .inr (List.mem_append_left _ h)
  · rcases List.mem_cons.1 h with h | h
    · exact .inl h
    · exact .inr (List.mem_append_right _ (mem_restT h))
theorem mem_oneT {o : Chg} {r : List Row} {x : Row} (h : x ∈ oneT r o) : x = ⟨o.k, o.v⟩ ∨ x ∈ r := by
  unfold oneT at h
  split at h
  · exact .inr (mem_dropT h)
  · exact mem_putT h
theorem mem_runT {l : List Chg} {r : List Row} {x : Row} (h : x ∈ runT l r) : (∃ o ∈ l, x = ⟨o.k, o.v⟩) ∨ x ∈ r := by
  unfold runT at h
  induction l generalizing r with
  | nil => exact .inr h
  | cons o l ih =>
    rw [List.foldl_cons] at h
    rcases ih h with ⟨o', ho', e⟩ | h
    · exact .inl ⟨o', List.mem_cons_of_mem _ ho', e⟩
    · rcases mem_oneT h with e | h
      · exact .inl ⟨o, List.mem_cons_self, e⟩
      · exact .inr h
theorem chk_zero {l : List Chg} (h : chkO l = 0) : l.length ≤ 128 ∧ ∀ o ∈ l, badC o = false := by
  unfold chkO at h
  split at h
  · cases h
  · split at h
    · cases h
    · rename_i h1 h2
      refine ⟨by omega, fun o ho => ?_⟩
      cases e : badC o with
      | false => rfl
      | true => exact absurd (List.any_eq_true.2 ⟨o, ho, e⟩) h2
theorem mem_appT {l : List Chg} {r : List Row} {x : Row} (h : x ∈ appT l r) : (∃ o ∈ l, x = ⟨o.k, o.v⟩ ∧ badC o = false) ∨ x ∈ r := by
  unfold appT at h
  split at h
  · rename_i hc
    rcases mem_runT h with ⟨o, ho, e⟩ | h
    · exact .inl ⟨o, ho, e, (chk_zero hc).2 o ho⟩
    · exact .inr h
  · exact .inr h
theorem appT_len (l : List Chg) (r : List Row) : (appT l r).length ≤ r.length + 128 := by
  unfold appT
  split
  · rename_i hc
    have := runT_len l r
    have := (chk_zero hc).1
    omega
  · omega
/-- the rows behind so many batches -/
def tRows (ls : List (List Chg)) (k : Nat) : List Row := (ls.take k).foldl (fun r l => appT l r) []
theorem tRows_succ {ls : List (List Chg)} {k : Nat} {l : List Chg} (h : ls[k]? = some l) : tRows ls (k + 1) = appT l (tRows ls k) := by
  obtain ⟨hk, rfl⟩ := List.getElem?_eq_some_iff.1 h
  unfold tRows
  rw [List.take_succ_eq_append_getElem hk, List.foldl_append]
  rfl
theorem tRows_past {ls : List (List Chg)} {k : Nat} (h : ls.length ≤ k) : tRows ls (k + 1) = tRows ls k := by
  unfold tRows
  rw [List.take_of_length_le (by omega), List.take_of_length_le h]
theorem tRows_len (ls : List (List Chg)) : ∀ k, (tRows ls k).length ≤ k * 128
  | 0 => Nat.le_refl _
  | k + 1 => by
    have ih := tRows_len ls k
    by_cases h : k < ls.length
    · rw [tRows_succ (List.getElem?_eq_getElem h)]
      have := appT_len ls[k] (tRows ls k)
      omega
    · rw [tRows_past (by omega)]
      omega
theorem tRows_all {Q : Row → Prop} {ls : List (List Chg)} (h : ∀ l ∈ ls, ∀ o ∈ l, badC o = false → Q ⟨o.k, o.v⟩) : ∀ k, ∀ x ∈ tRows ls k, Q x
  | 0, x, hx => by cases hx
  | k + 1, x, hx => by
    have ih := tRows_all h k
    by_cases hk : k < ls.length
    · rw [tRows_succ (List.getElem?_eq_getElem hk)] at hx
      rcases mem_appT hx with ⟨o, ho, rfl, hb⟩ | hx
      · exact h _ (List.getElem_mem hk) o ho hb
      · exact ih x hx
    · rw [tRows_past (by omega)] at hx
      exact ih x hx
theorem good_key {o : Chg} (h : badC o = false) : o.k ≠ ⟨#[]⟩ := by
  intro e
  unfold badC at h
  rw [e, nil_list] at h
  simp at h
theorem tRows_ne (ls : List (List Chg)) (k : Nat) : ∀ x ∈ tRows ls k, x.k ≠ ⟨#[]⟩ := tRows_all (fun _ _ _ _ hb => good_key hb) k

/-- a table and the reference's, apart from each other, and from the blocks F -/
structure Two (F : Nat → Prop) (t p : Nat) (r1 r2 : List Row) (w : World) : Prop where
  ex : ∃ P R v, At P w t r1 ∧ RefIs R w p v r2 ∧ (∀ k, R k → k < w.heap.size) ∧ (∀ k, P k → ¬ R k) ∧ (∀ k, P k → ¬ F k) ∧ (∀ k, R k → ¬ F k)
  fl : ∀ k, F k → k < w.heap.size
section
variable {F : Nat → Prop} {t p : Nat} {r1 r2 : List Row} {w : World}
theorem Two.keep (h : Two F t p r1 r2 w) {w' : World} {S : Nat → Prop} (ht : Turns S w w') (hS : ∀ k, k < w.heap.size → S k → F k) : Two F t p r1 r2 w' := by
  obtain ⟨P, R, v, h1, h2, h3, h4, h5, h6⟩ := h.ex
  have ht' : Turns F w w' := ht.mono fun k hk hs => hS k hk hs
  exact ⟨⟨P, R, v, h1.keep ht' h5, h2.keep ht' h6, fun k hk => Nat.lt_of_lt_of_le (h3 k hk) ht.size, h4, h5, h6⟩, fun k hk => Nat.lt_of_lt_of_le (h.fl k hk) ht.size⟩
theorem Two.below (h : Two F t p r1 r2 w) {w' : World} (hb : Below w.heap.size w w') : Two F t p r1 r2 w' := h.keep (S := fun _ => False) (Turns.of_below hb) fun _ _ h => h.elim
theorem Two.less (h : Two F t p r1 r2 w) {F' : Nat → Prop} (hf : ∀ k, F' k → F k) : Two F' t p r1 r2 w := by
  obtain ⟨P, R, v, h1, h2, h3, h4, h5, h6⟩ := h.ex
  exact ⟨⟨P, R, v, h1, h2, h3, h4, fun k hk hf' => h5 k hk (hf k hf'), fun k hk hf' => h6 k hk (hf k hf')⟩, fun k hk => h.fl k (hf k hk)⟩
/-- what is made anew is foreign -/
theorem Two.more (h : Two F t p r1 r2 w) {w' : World} (hb : Below w.heap.size w w') : Two (grew F w.heap.size w'.heap.size) t p r1 r2 w' := by
  obtain ⟨P, R, v, h1, h2, h3, h4, h5, h6⟩ := h.ex
  refine ⟨⟨P, R, v, h1.below hb, h2.below hb, fun k hk => Nat.lt_of_lt_of_le (h3 k hk) hb.size, h4, fun k hk hf => ?_, fun k hk hf => ?_⟩, fun k hk => ?_⟩
  · rcases hf with hf | hf
    · exact h5 k hk hf
    · have := h1.lt k hk; omega
  · rcases hf with hf | hf
    · exact h6 k hk hf
    · have := h3 k hk; omega
  · rcases hk with hk | hk
    · exact Nat.lt_of_lt_of_le (h.fl k hk) hb.size
    · exact hk.2
theorem Two.apply_t (h : Two F t p r1 r2 w) {A : Option Addr} {len cap : Nat} {l : List Chg} (ho : Ops w A len cap l) (hA : ∀ g o, A = some ⟨g, o, none⟩ → l ≠ [] → F g) (hr : r1.length ≤ 900000) :
    Calls Try.prog 14 #[TP t, .slice A len cap] w fun e w' => e = .returned (.int .i64 (chkO l)) ∧ Two F t p (appT l r1) r2 w' ∧ Turns (fun k => ¬ F k) w w' := by
  obtain ⟨P, R, v, h1, h2, h3, h4, h5, h6⟩ := h.ex
  refine (Apply_at h1 ho (fun g o hg hl hp => h5 g hp (hA g o hg hl)) hr).mono fun e w' ⟨he, ht, hturn⟩ => ⟨he, ⟨⟨_, R, v, ht, h2.keep hturn (fun k hk hp => h4 k hp hk), fun k hk => Nat.lt_of_lt_of_le (h3 k hk) hturn.size, fun k hk hR => ?_, fun k hk hF => ?_, h6⟩, fun k hk => Nat.lt_of_lt_of_le (h.fl k hk) hturn.size⟩, hturn.mono fun k _ hk => h5 k hk⟩
  · rcases hk with hk | hk
    · exact h4 k hk hR
    · have := h3 k hR; omega
  · rcases hk with hk | hk
    · exact h5 k hk hF
    · have := h.fl k hF; omega
theorem Two.apply_r (h : Two F t p r1 r2 w) {A : Option Addr} {len cap : Nat} {l : List Chg} (ho : Ops w A len cap l) (hA : ∀ g o, A = some ⟨g, o, none⟩ → l ≠ [] → F g) (hr : r2.length ≤ 900000) :
    Calls Try.prog 15 #[TP p, .slice A len cap] w fun e w' => e = .returned (.int .i64 (chkO l)) ∧ Two F t p r1 (appT l r2) w' ∧ Turns (fun k => ¬ F k) w w' := by
  obtain ⟨P, R, v, h1, h2, h3, h4, h5, h6⟩ := h.ex
  refine (Apply_ref R p v r2 A len cap l w h2 ho (fun g o hg hl e => h6 p h2.rp (e ▸ hA g o hg hl)) hr).mono fun e w' ⟨he, v', hr', hturn⟩ => ⟨he, ⟨⟨P, _, v', h1.keep hturn (fun k hk e => h4 k hk (e ▸ h2.rp)), hr', fun k hk => ?_, fun k hk hR => ?_, h5, fun k hk hF => ?_⟩, fun k hk => Nat.lt_of_lt_of_le (h.fl k hk) hturn.size⟩, hturn.mono fun k _ hk => by rw [hk]; exact h6 p h2.rp⟩
  · rcases hk with hk | hk
    · exact Nat.lt_of_lt_of_le (h3 k hk) hturn.size
    · exact hk.2
  · rcases hR with hR | hR
    · exact h4 k hk hR
    · have := h1.lt k hk; omega
  · rcases hk with hk | hk
    · exact h6 k hk hF
    · have := h.fl k hF; omega
theorem Two.tab (h : Two F t p r1 r2 w) : ∃ P, At P w t r1 := by obtain ⟨P, _, _, h1, _⟩ := h.ex; exact ⟨P, h1⟩
theorem Two.ref (h : Two F t p r1 r2 w) : ∃ R v, RefIs R w p v r2 := by obtain ⟨_, R, v, _, h2, _⟩ := h.ex; exact ⟨R, v, h2⟩
end
theorem Two.new {w w1 w2 : World} {t : Nat} (h1 : At (made w.heap.size w1.heap.size) w1 t []) (hb1 : Below w.heap.size w w1) (h2 : w2 = w1.alloc (.cells #[.slice none 0 0] 37)) :
    Two (fun k => k < w.heap.size) t w1.heap.size [] [] w2 ∧ Below w.heap.size w w2 := by
  subst h2
  have hb2 : Below w1.heap.size w1 (w1.alloc (.cells #[.slice none 0 0] 37)) := (Below.refl _ _).alloc (Nat.le_refl _) _
  have hs := hb1.size
  refine ⟨⟨⟨_, fun k => k = w1.heap.size, .slice none 0 0, h1.below hb2, ⟨Blk.new _ _ _, World.ownsRow_nil _ _ _ _, rfl, fun g hg => by cases hg⟩, fun k hk => by subst hk; simp, fun k hk e => ?_, fun k hk e => ?_, fun k hk e => by omega⟩, fun k hk => ?_⟩, hb1.trans (hb2.mono hs)⟩
  · have := hk.2; omega
  · have := hk.1; omega
  · have := hb2.size; omega

def TurR (rs : List Row) (w : World) (cnt : Nat) (s3 s4 : Value) (w1 : World) : Prop :=
  ∃ i v, v = s3 ∧ s4 = .int .i64 i ∧ i = (cnt : Int) - 1 ∧ cnt ≤ rs.length ∧ w1.ownsRow w.heap.size 39 2 v (rs.drop cnt).reverse.length (flat rcR (rs.drop cnt).reverse) ∧ Below w.heap.size w w1

set_option maxRecDepth 100000 in
set_option maxHeartbeats 1000000 in
theorem turned_any (v : Value) (rs : List Row) (w : World) (h : Rws w v rs) (hlen : rs.length ≤ 1000000) :
    Calls Try.prog 25 #[v] w fun e w' => ∃ u, e = .returned u ∧ w'.ownsRow w.heap.size 39 2 u rs.reverse.length (flat rcR rs.reverse) ∧ Below w.heap.size w w' := by
  obtain ⟨i0, hi0, hz0, hz1, hz2⟩ := info_parts row_info
  have HI := Lib.hid (And.intro hi0 (And.intro hz0 (And.intro hz1 hz2)))
  obtain ⟨A, c, rfl, hcs⟩ := h
  have HC := Lib.hid hcs
  have hb3 : (rs.length : Int) ≤ 1000000 := by omega
  have hwr : IntKind.i64.wrap ((rs.length : Int) - 1) = (rs.length : Int) - 1 := IntWalk.i64_in _ (by omega)
  clear hcs hi0 hz0 hz1 hz2
  go_enter Try.func25, Try.ntmps25
  go_wp2
  go_loopg [3, 4] rs.length (fun cnt s3 s4 w1 => TurR rs w cnt s3 s4 w1)
  case atStart => exact ⟨_, _, rfl, rfl, rfl, Nat.le_refl _, by rw [List.drop_length]; exact World.ownsRow_nil _ _ _ _, Below.refl _ _⟩
  case round =>
    obtain ⟨i, v3, rfl, rfl, hi, hcl, hown, hbel⟩ := hrel
    cases gk with
    | zero =>
      obtain rfl : i = -1 := by omega
      have HO := Lib.hid (And.intro hown hbel)
      rw [List.drop_zero] at HO
      clear hi hcl hown hbel hwr
      go_wp2
      go_ret
      exact ⟨_, rfl, HO.out⟩
    | succ j =>
      obtain rfl : i = (j : Int) := by omega
      obtain ⟨x, hx⟩ : ∃ x, rs[j]? = some x := ⟨_, List.getElem?_eq_getElem (show j < rs.length by omega)⟩
      obtain ⟨g, o, rfl, y0, y1⟩ := HC.out j x hx
      have HO := Lib.hid (And.intro hown hbel)
      have x0 := (hbel.cell (p := ⟨g, o + j * 2, none⟩) (World.block_lt_of_cell? w _ y0)).trans y0
      have x1 := (hbel.cell (p := ⟨g, o + j * 2 + 1, none⟩) (World.block_lt_of_cell? w _ y1)).trans y1
      have b1 : (j : Int) < (rs.length : Int) := by omega
      have b2 : (0 : Int) ≤ (j : Int) := by omega
      have hwj : IntKind.i64.wrap ((j : Int) - 1) = (j : Int) - 1 := IntWalk.i64_in _ (by omega)
      have hdr : rs.drop j = x :: rs.drop (j + 1) := by
        obtain ⟨hj, rfl⟩ := List.getElem?_eq_some_iff.1 hx
        exact List.drop_eq_getElem_cons hj
      have HYES : Hid (∀ o u4 w4, w4.ownsRow w.heap.size 39 2 u4 ((rs.drop (j + 1)).reverse.length + 1) (flat rcR (rs.drop (j + 1)).reverse ++ rcR x) → (wr.alloc o).grownBy w4 v3.ownBlock → TurR rs w j u4 (.int .i64 ((j : Int) - 1)) w4) := fun o u4 w4 h4 hg => by
        refine ⟨_, u4, rfl, rfl, rfl, by omega, ?_, (HO.out.2.alloc HO.out.2.size o).grown hg (Nat.le_trans HO.out.2.size (by simp)) (fun k hk => (HO.out.1.lt k hk).1)⟩
        rw [hdr, List.reverse_cons, List.length_append, flat_append]
        simpa [flat] using h4
      have HFL : Hid ((rs.drop (j + 1)).reverse.length ≤ 1000000) := by
        show _ ≤ _
        rw [List.length_reverse, List.length_drop]
        omega
      generalize (rs.drop (j + 1)).reverse = fs at *
      clear hown hbel hx hdr y0 y1 hi hwr
      go_wp2_with (at_builtin; refine wpList_append_src rfl (.tmp 12) (.tmp 17) 33 rfl w.heap.size 39 i0 _ 2 32 Try.underlying33 HI.out.1 HI.out.2.1 HI.out.2.2.1 HI.out.2.2.2 rfl (by decide) _ _ _ rfl (HO.out.1.alloc _) _ 1 _ (rcR x) rfl ?h1 ?h2 ?h3 ?h4 ?h5 ?h6 ?h7 ?_)
      case h1 => rfl
      case h2 => intro h; cases h
      case h3 =>
        intro ad had k u hu
        injection had with had
        subst had
        rw [addr_add, Nat.zero_add, World.cell?_alloc_new]
        simpa [rcR] using hu
      case h4 => exact rcR_one x
      case h5 => have := HFL.out; unfold maxLen; omega
      case h6 => have := HFL.out; omega
      case h7 => have := HO.out.2.size; simp; omega
      intro u4 w4 hown4 hg4
      have HR := Lib.hid (HYES.out _ u4 w4 hown4 hg4)
      clear hown4 hg4
      go_wp2
      go_roundg j
      case measure => omega
      case rel => exact HR.out

end Tb
end Go.Proofs.Ytoglklldclgcbaa
