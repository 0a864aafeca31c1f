/-
  Walk: the law SkipWalk.
-/
import Derived.Test.YtphfedkfbehigaaWalkFacts
namespace Go.Proofs.Ytphfedkfbehigaa
open Go.RowKit Sk
namespace St

/-- a slice of the call's own that holds keys -/
def Own (B : Nat) (w : World) (u : Value) (l : List ByteArray) : Prop := w.ownsRow B 9 1 u l.length (l.map Value.string)
theorem Own.kind {B : Nat} {w : World} {u : Value} {l : List ByteArray} (h : Own B w u l) : ∀ g, u.ownBlock = some g → B ≤ g ∧ g < w.heap.size ∧ kindOf w g = some 9 := fun g hg =>
  ⟨(World.ownsRow.lt h g hg).1, (Ks.of_owns h).kind g hg⟩
theorem Own.below {B : Nat} {w w' : World} {u : Value} {l : List ByteArray} (h : Own B w u l) (hb : Below w.heap.size w w') : Own B w' u l :=
  owns_keep h (S := fun _ => False) (Turns.of_below hb) fun _ _ h => h
/-- behind an append onto a slice of keys: list and map lie as they lay -/
theorem Pair.texts {B L b : Nat} {rows : List Row} {w w1 w2 : World} {u : Value} {l : List ByteArray} (h : Pair B L b rows w w1) (hu : Own B w1 u l) (hg : w1.grownBy w2 u.ownBlock) (hw : w.heap.size = B) : Pair B L b rows w w2 := by
  have ht := Turns.of_grown hg
  refine ⟨h.low.trans (ht.to_below (h.size hw) fun k hk => (hu.kind k hk).1), h.sk.keep ht fun k hk hs => ?_, h.mp.keep ht fun hs => ?_⟩
  · obtain ⟨_, t, ht2, hk2⟩ := hk
    rw [(hu.kind k hs).2.2] at hk2
    injection hk2 with hk2
    revert ht2
    rw [← hk2]
    decide
  · have := (hu.kind b hs).2.2
    rw [h.mp.blk] at this
    cases this

/-- 'append' onto a slice of keys of the call's own, from any slice of keys -/
theorem wpList_append_keys {w : World} {ops : Array Oper} {rest : List Oper} {o : Oper} {a : Act} {Q : Exit → Act → World → Prop} (hgd : o.guard = none) (s x : Operand)
    (ho : o.op = .call { callee := .builtin .append, args := #[s, x], argTypes := #[36, 36] }) (B : Nat) (v : Value) (l : List ByteArray) (hs : a.eval s = v) (hown : Own B w v l)
    (u : Value) (m : List ByteArray) (hx : a.eval x = u) (hu : Sm.Strs w u m) (hB : B ≤ w.heap.size) (hlen : l.length + m.length ≤ 1000000)
    (h : ∀ v' w', Own B w' v' (l ++ m) → w.grownBy w' v.ownBlock → wpList Try.prog ops Q rest (a.put o.dst v') w') : wpList Try.prog ops Q (o :: rest) a w := by
  obtain ⟨i0, hi0, hz0, hz1, hz2⟩ := info_parts Rf.str_info
  obtain ⟨A, c, hu1, hcs⟩ := hu
  refine wpList_append_src hgd s x 36 ho B 9 i0 (.string ⟨#[]⟩) 1 16 Try.underlying36 hi0 hz0 hz1 hz2 rfl (by decide) v l.length _ hs hown A m.length c (m.map Value.string) (hx.trans hu1) (by simp) ?_ ?_ ?_ (by unfold maxLen; omega) (by omega) hB ?_
  · intro hA
    cases m with
    | nil => rfl
    | cons y r => obtain ⟨_, _, e, _⟩ := hcs 0 y rfl; rw [hA] at e; cases e
  · intro ad e j u hj
    rw [List.getElem?_map] at hj
    cases hm : m[j]? with
    | none => rw [hm] at hj; cases hj
    | some y =>
      rw [hm] at hj
      injection hj with hj
      obtain ⟨g, o, e2, hc⟩ := hcs j y hm
      rw [e] at e2
      injection e2 with e2
      rw [e2, addr_add, hc, ← hj]
  · intro u hu
    obtain ⟨y, _, rfl⟩ := List.mem_map.1 hu
    rfl
  · intro v' w' h1 h2
    refine h v' w' ?_ h2
    unfold Own
    rw [List.map_append, List.length_append]
    exact h1

def WUp (B L b : Nat) (rows : List Row) (w : World) (cnt : Nat) (u s i : Value) (w1 : World) : Prop :=
  ∃ k : Nat, k + cnt = rows.length ∧ s = .string (frm rows k) ∧ i = .int .i64 (k : Nat) ∧ Pair B L b rows w w1 ∧ Own B w1 u ((rows.take k).map Rf.It.k)
def WDown (B L b : Nat) (rows : List Row) (w : World) (up : Value) (cnt : Nat) (u s i : Value) (w1 : World) : Prop :=
  ∃ k : Nat, k + cnt = rows.length ∧ s = .string (tow rows k) ∧ i = .int .i64 (k : Nat) ∧ Pair B L b rows w w1 ∧ Own B w1 up (rows.map Rf.It.k) ∧ Own B w1 u ((rows.drop (rows.length - k)).map Rf.It.k)

set_option maxRecDepth 100000 in
set_option maxHeartbeats 2000000 in
theorem walk_walk (A : Option Addr) (len cap : Nat) (ds : List Deed) (w : World) (hlen : ds.length = len) (hds : Deeds w A ds) (hf : ∀ d ∈ ds, Deed.Fine d) (hsm : ∀ d ∈ ds, d.key.size ≤ reachBytes) :
    Calls Try.prog 6 #[.slice A len cap] w fun e w' => e = .returned (.bool true) ∧ Below w.heap.size w w' := by
  obtain ⟨B, hBw⟩ : ∃ B, w.heap.size = B := ⟨_, rfl⟩
  have HBW := Lib.hid hBw
  have HDS := Lib.hid (And.intro hlen (And.intro hds hf))
  have HSM := Lib.hid hsm
  clear hBw hds hlen hf hsm
  go_enter Try.func6, Try.ntmps6
  go_wp2_with fail
  refine (Wk.works_any _).mono ?_
  rintro e w1 ⟨rfl, hb⟩
  have H1 := Lib.hid (show Below B w w1 from HBW.out ▸ hb)
  clear hb
  go_wp2_with fail
  refine (made_pair A len cap ds B w w1 HDS.out.1 HDS.out.2.1 HDS.out.2.2 HBW.out H1.out).mono ?_
  rintro e w2 ⟨L, b, rfl, hp⟩
  have hrl := mrows_length ds 80
  have HS := Lib.hid (srt_mrows ds 80)
  have hall := stepKeys_all fun x hx => (lv_rows hp.sk x hx).1
  have hkz := keys_mrows (fun k => k.size ≤ reachBytes) ds HSM.out 80
  generalize mrows ds 80 = rows at *
  have H2 := Lib.hid hp
  have HA := Lib.hid (And.intro hall hkz)
  clear hp H1 hall hkz
  go_wp2_with fail
  go_loopg [5, 7, 8] rows.length (fun cnt u s i w1 => WUp B L b rows w cnt u s i w1)
  case atStart => exact ⟨0, by omega, rfl, rfl, H2.out, World.ownsRow_nil _ _ _ _⟩
  case round =>
    clear H2
    obtain ⟨k, hk, rfl, rfl, hp, hown⟩ := hrel
    have HK := Lib.hid hk
    have H3 := Lib.hid (And.intro hp hown)
    have z3 : Hid (B ≤ wr.heap.size) := hp.size HBW.out
    have hkn : k ≤ rows.length := by omega
    have ek : decide (k ≤ rows.length) = true := by simp; omega
    clear hp hown hk
    go_wp2_with (at_len; refine wpList_len_mp _ rfl _ rfl b 80 rows rfl H3.out.1.mp ?_)
    refine (First_st B L rows _ (frm rows k) H3.out.1.sk).mono ?_
    rintro e w3 ⟨rfl, hb⟩
    have H4 := Lib.hid (And.intro (H3.out.1.below (HBW.out ▸ Nat.le_refl _) hb) (H3.out.2.below hb))
    have z4 : Hid (B ≤ w3.heap.size) := Nat.le_trans z3.out hb.size
    clear hb H3 z3
    by_cases hlt : k < rows.length
    · have hget := List.getElem?_eq_getElem hlt
      obtain ⟨f1, f2⟩ := first_frm HS.out hget
      have hkz := HA.out.2 _ (List.mem_of_getElem? hget)
      have htk := take_keys hget
      have hfs := frm_succ hget
      generalize rows[k] = x at *
      rw [f1, f2]
      have hcat : ∀ W, (Op.stringOp .add x.k ⟨#[0]⟩).run Try.prog W = .ok (.string (x.k ++ ⟨#[0]⟩)) W := fun W => run_string_add_sum W _ _ (by
        have : (⟨#[0]⟩ : ByteArray).size = 1 := rfl
        have : reachBytes < 9223372036854775806 := by decide
        omega)
      have HT := Lib.hid (And.intro htk hfs)
      have HO := Lib.hid H4.out.2
      clear hget f1 f2 hkz htk hfs
      have hpa : Pair B L b rows w (w3.alloc (.cells #[.string x.k] 9)) := H4.out.1.below (HBW.out ▸ Nat.le_refl _) ((Below.refl _ _).alloc (Nat.le_refl _) _)
      have hoa : Own B (w3.alloc (.cells #[.string x.k] 9)) u5 ((rows.take k).map Rf.It.k) := H4.out.2.below ((Below.refl _ _).alloc (Nat.le_refl _) _)
      have HPA := Lib.hid (And.intro hpa (And.intro hoa (show B ≤ (w3.alloc (.cells #[.string x.k] 9)).heap.size by have := z4.out; simp; omega)))
      clear hpa hoa
      go_wp2_with (at_builtin; refine wpList_append_keys rfl (.tmp 36) (.tmp 38) rfl B _ _ rfl HPA.out.2.1 _ [x.k] rfl (Sm.Strs.new w3 [x.k] 1) HPA.out.2.2 (by simp; omega) ?_)
      intro v2 w4 hown2 hg2
      have hp4 := HPA.out.1.texts HPA.out.2.1 hg2 HBW.out
      have hrel : WUp B L b rows w (rows.length - (k + 1)) v2 (.string (x.k ++ ⟨#[0]⟩)) (.int .i64 ((k : Int) + 1)) w4 := by
        refine ⟨k + 1, by omega, by rw [HT.out.2], by simp, hp4, ?_⟩
        rw [HT.out.1, List.map_take]
        exact hown2
      have HR := Lib.hid hrel
      clear hown2 hg2 hp4 hrel
      go_wp2_with fail
      go_roundg (rows.length - (k + 1))
      case measure => have := HK.out; omega
      case rel => exact HR.out
    · have hkl : k = rows.length := by omega
      subst hkl
      rw [first_end HS.out]
      have HO := Lib.hid H4.out.2
      clear hlt hkn ek
      go_wp2_with fail
      go_loopg [6, 11, 12] rows.length (fun cnt u s i w1 => WDown B L b rows w u5 cnt u s i w1)
      case atStart =>
        refine ⟨0, by omega, rfl, rfl, H4.out.1, ?_, ?_⟩
        · have := H4.out.2; rw [List.take_length] at this; exact this
        · simp only [Nat.sub_zero, List.drop_length]
          exact World.ownsRow_nil _ _ _ _
      case round =>
        clear H4 HO z4
        obtain ⟨j, hj, rfl, rfl, hp, hup, hown⟩ := hrel
        have HJ := Lib.hid hj
        have H5 := Lib.hid (And.intro hp (And.intro hup hown))
        have z5 : Hid (B ≤ wr.heap.size) := hp.size HBW.out
        have hjn : j ≤ rows.length := by omega
        have ek : decide (j ≤ rows.length) = true := by simp; omega
        clear hp hup hown hj
        go_wp2_with (at_len; refine wpList_len_mp _ rfl _ rfl b 80 rows rfl H5.out.1.mp ?_)
        refine (Last_st B L rows _ (tow rows j) H5.out.1.sk).mono ?_
        rintro e w5 ⟨rfl, hb⟩
        have H6 := Lib.hid (And.intro (H5.out.1.below (HBW.out ▸ Nat.le_refl _) hb) (And.intro (H5.out.2.1.below hb) (H5.out.2.2.below hb)))
        have z6 : Hid (B ≤ w5.heap.size) := Nat.le_trans z5.out hb.size
        clear hb H5 z5
        by_cases hlt : j < rows.length
        · obtain ⟨x, hx⟩ : ∃ x, rows[rows.length - (j + 1)]? = some x := ⟨_, List.getElem?_eq_getElem (by omega)⟩
          obtain ⟨f1, f2⟩ := last_tow HS.out hlt hx
          have hdk := drop_keys hlt hx
          have hts := tow_succ hx
          rw [f1, f2]
          have HT := Lib.hid (And.intro hdk hts)
          have hpa : Pair B L b rows w (w5.alloc (.cells #[.string x.k] 9)) := H6.out.1.below (HBW.out ▸ Nat.le_refl _) ((Below.refl _ _).alloc (Nat.le_refl _) _)
          have hoa : Own B (w5.alloc (.cells #[.string x.k] 9)) u5 (rows.map Rf.It.k) := H6.out.2.1.below ((Below.refl _ _).alloc (Nat.le_refl _) _)
          have hob : Own B (w5.alloc (.cells #[.string x.k] 9)) u6 ((rows.drop (rows.length - j)).map Rf.It.k) := H6.out.2.2.below ((Below.refl _ _).alloc (Nat.le_refl _) _)
          have hoc : Own B (w5.alloc (.cells #[.string x.k] 9)) (.slice (some ⟨w5.heap.size, 0, none⟩) 1 1) [x.k] := World.ownsRow_lit w5 _ 1 z6.out (by unfold maxLen; omega) rfl
          have HPA := Lib.hid (And.intro hpa (And.intro hoa (And.intro hob (And.intro hoc (show B ≤ (w5.alloc (.cells #[.string x.k] 9)).heap.size by have := z6.out; simp; omega)))))
          have HST := Lib.hid (Ks.of_owns hob).is
          have hll : [x.k].length + ((rows.drop (rows.length - j)).map Rf.It.k).length ≤ 1000000 := by rw [List.length_map, List.length_drop]; simp; omega
          have hnew : ∀ g, u5.ownBlock = some g → g ≠ w5.heap.size := fun g hg => by have := (H6.out.2.1.kind g hg).2.1; omega
          have HN := Lib.hid hnew
          have hgt : j = 0 ∨ (0 < j ∧ (tow rows j).toList.isEmpty = false) := by
            cases j with
            | zero => exact .inl rfl
            | succ j => exact .inr ⟨by omega, tow_some HS.out hlt⟩
          clear hx f1 f2 hdk hts hpa hoa hob hoc hnew
          rcases hgt with rfl | ⟨hj0, hte⟩
          · have htow : tow rows 0 = ⟨#[]⟩ := rfl
            go_wp2_with (at_builtin; refine wpList_append_keys rfl (.tmp 65) (.tmp 66) rfl B _ _ rfl HPA.out.2.2.2.1 _ _ rfl HST.out HPA.out.2.2.2.2 hll ?_)
            intro v2 w6 hown2 hg2
            have hp6 := HPA.out.1.texts HPA.out.2.2.2.1 hg2 HBW.out
            have hup6 : Own B w6 u5 (rows.map Rf.It.k) := owns_keep HPA.out.2.1 (Turns.of_grown hg2) fun g hg e => by
              injection e with e
              exact HN.out g hg e.symm
            have hrel : WDown B L b rows w u5 (rows.length - (0 + 1)) v2 (.string x.k) (.int .i64 (((0 : Nat) : Int) + 1)) w6 := by
              refine ⟨0 + 1, by omega, by rw [HT.out.2], by simp, hp6, hup6, ?_⟩
              rw [HT.out.1]
              simpa [List.map_drop] using hown2
            have HR := Lib.hid hrel
            clear hown2 hg2 hp6 hup6 hrel
            go_wp2_with fail
            go_roundg (rows.length - (0 + 1))
            case measure => have := HJ.out; omega
            case rel => exact HR.out
          · have hj1 : decide (0 < (j : Int)) = true := by simp; omega
            have hj2 : decide (0 < j) = true := by simp; omega
            go_wp2_with (at_builtin; refine wpList_append_keys rfl (.tmp 65) (.tmp 66) rfl B _ _ rfl HPA.out.2.2.2.1 _ _ rfl HST.out HPA.out.2.2.2.2 hll ?_)
            intro v2 w6 hown2 hg2
            have hp6 := HPA.out.1.texts HPA.out.2.2.2.1 hg2 HBW.out
            have hup6 : Own B w6 u5 (rows.map Rf.It.k) := owns_keep HPA.out.2.1 (Turns.of_grown hg2) fun g hg e => by
              injection e with e
              exact HN.out g hg e.symm
            have hrel : WDown B L b rows w u5 (rows.length - (j + 1)) v2 (.string x.k) (.int .i64 (((j : Nat) : Int) + 1)) w6 := by
              refine ⟨j + 1, by omega, by rw [HT.out.2], by simp, hp6, hup6, ?_⟩
              rw [HT.out.1]
              simpa [List.map_drop] using hown2
            have HR := Lib.hid hrel
            clear hown2 hg2 hp6 hup6 hrel
            go_wp2_with fail
            go_roundg (rows.length - (j + 1))
            case measure => have := HJ.out; omega
            case rel => exact HR.out
        · have hjl : j = rows.length := by omega
          have hle := last_end HS.out
          subst hjl
          have hfull : rows.drop (rows.length - rows.length) = rows := by rw [Nat.sub_self, List.drop_zero]
          have hd6 := H6.out.2.2
          rw [hfull] at hd6
          have H7 := Lib.hid (And.intro H6.out.1 (And.intro H6.out.2.1 hd6))
          obtain ⟨A5, c5, hu5, _⟩ := (Ks.of_owns H7.out.2.1).open
          rw [List.length_map] at hu5
          subst hu5
          clear hfull hd6 H6 hlt hjn ek HJ
          have hend : lastB (tow rows rows.length) rows = false ∨ (lastB (tow rows rows.length) rows = true ∧ 0 < rows.length ∧ (tow rows rows.length).toList.isEmpty = true) := by
            cases hb : lastB (tow rows rows.length) rows with
            | false => exact .inl rfl
            | true =>
              refine .inr ⟨rfl, ?_, ?_⟩
              · rcases Nat.eq_zero_or_pos rows.length with h | h
                · rw [hle (.inr h)] at hb; cases hb
                · exact h
              · cases he : (tow rows rows.length).toList.isEmpty with
                | true => rfl
                | false => rw [hle (.inl he)] at hb; cases hb
          clear hle
          rcases hend with hb | ⟨hb, hn0, hte⟩
          all_goals
            rw [hb]
            clear hb
            go_wp2_with (at_len; refine wpList_len_mp _ rfl _ rfl b 80 rows rfl H7.out.1.mp ?_)
            refine (Step_st B L rows _ 1 H7.out.1.sk (by omega)).mono ?_
            rintro e w7 ⟨u, rfl, hu, hb⟩
            rw [HA.out.1] at hu
            have HL := Lib.hid (H7.out.1.below (HBW.out ▸ Nat.le_refl _) hb).low
            have HK2 := Lib.hid (And.intro (H7.out.2.1.below hb) (And.intro (H7.out.2.2.below hb) (Ks.of_owns hu).is))
            clear hb hu H7 z6
            go_wp2_with fail
            refine (Sm.Same_yes _ _ _ _ (Ks.of_owns HK2.out.1).is HK2.out.2.2 (by rw [List.length_map]; omega)).mono ?_
            rintro e w' ⟨rfl, q, rfl⟩
            obtain ⟨w8, hw8⟩ : ∃ w8, w7.drewN q = w8 := ⟨_, rfl⟩
            rw [hw8]
            have hb8 : Below w7.heap.size w7 w8 := by rw [← hw8]; exact below_drewN' (Below.refl _ _) q
            have HK3 := Lib.hid (And.intro (Ks.of_owns (HK2.out.1.below hb8)).is (Ks.of_owns (HK2.out.2.1.below hb8)).is)
            have HL8 := Lib.hid (HL.out.trans (hb8.mono (Nat.le_trans (HBW.out ▸ Nat.le_refl _) HL.out.size)))
            clear hb8 hw8 HK2
            go_wp2_with fail
            refine (Sm.Same_yes _ _ _ _ HK3.out.2 HK3.out.1 (by rw [List.length_map]; omega)).mono ?_
            rintro e w' ⟨rfl, q2, rfl⟩
            go_wp2
            go_ret
            exact ⟨rfl, by rw [HBW.out]; exact HL8.out.trans (below_drewN' (Below.refl _ _) q2)⟩

end St
end Go.Proofs.Ytphfedkfbehigaa
