/-
  Walks: the reference's spans (scriptoriumref16): with, ends.
-/
import Derived.Test.YtpkiiimbichooaaRtTwo
namespace Go.Proofs.Ytpkiiimbichooaa
open Go.RowKit Sk
namespace Rr
open Rt (Strs RP Sp em chk hs ri rb str_info withL ends2 has2 Asc)

/-- texts in a slice of the call's own -/
def Own (B : Nat) (w : World) (v : Value) (l : List ByteArray) : Prop := w.ownsRow B 9 1 v l.length (l.map Value.string)
theorem Own.below {B : Nat} {w w' : World} {v : Value} {l : List ByteArray} (h : Own B w v l) (hb : Below w.heap.size w w') : Own B w' v l :=
  owns_keep h (S := fun _ => False) (Turns.of_below hb) (fun _ _ h => h)
theorem Own.form {B : Nat} {w : World} {v : Value} {l : List ByteArray} (h : Own B w v l) : (v = .slice none 0 0 ∧ l = []) ∨
    ∃ g cap, v = .slice (some ⟨g, 0, none⟩) l.length cap ∧ l.length ≤ cap ∧ g < w.heap.size ∧ ∀ (k : Nat) (x : ByteArray), l[k]? = some x → w.cell? ⟨g, k, none⟩ = some (.string x) := by
  unfold Own at h
  rcases h.2 with ⟨hv, h0⟩ | ⟨g, cap, cur, hv, hB, hg, hnc, _⟩
  · exact .inl ⟨hv, List.eq_nil_of_length_eq_zero h0⟩
  · refine .inr ⟨g, cap, hv, hnc, (Array.getElem?_eq_some_iff.1 hg).1, fun k x hx => ?_⟩
    have h2 := h
    subst hv
    have := h2.cells (g := g) rfl k (.string x) (by rw [List.getElem?_map, hx]; rfl)
    rw [addr_add, Nat.zero_add] at this
    exact this

def WRel (n : Nat) (w : World) (cnt : Nat) (s : Value) (w1 : World) : Prop := ∃ k, k + cnt = n ∧ s = .int .i64 (k : Nat) ∧ w1 = w

set_option maxRecDepth 100000 in
set_option maxHeartbeats 4000000 in
theorem with_any (B : Nat) (v : Value) (l : List ByteArray) (s : ByteArray) (w : World) (h : Own B w v l) (hB : B ≤ w.heap.size) (hl : l.length ≤ 8) (hs : Asc l) :
    Calls Try.prog 57 #[v, .string s] w fun e w' => ∃ v', e = .returned v' ∧ Own B w' v' (withL l s) ∧ Below w.heap.size w w' := by
  obtain ⟨i0, hi0, hz0, hz1, hz2⟩ := info_parts str_info
  have HI := Lib.hid (And.intro hi0 (And.intro hz0 (And.intro hz1 hz2)))
  have hsz : (Try.prog.info? 9).map (·.size) = some 1 := by rw [hi0, Option.map_some, hz1]
  have HSZ := Lib.hid hsz
  have HB := Lib.hid hB
  have HO := Lib.hid h
  obtain ⟨n, hn⟩ : ∃ n, n = (lo id s l).length := ⟨_, rfl⟩
  obtain ⟨hlo, hhi⟩ := take_lo id s l
  rw [← hn] at hlo hhi
  have hnl : n ≤ l.length := by have := congrArg List.length (lo_hi id s l); rw [List.length_append, ← hn] at this; omega
  have hlow : ∀ k x, k < n → l[k]? = some x → Op.bytesLess x.toList s.toList = true := fun k x hk hx => by
    have : x ∈ lo id s l := by
      rw [← hlo]
      exact List.mem_of_getElem? (i := k) (by rw [List.getElem?_take, if_pos hk]; exact hx)
    exact lo_below id x this
  have hup : ∀ x, l[n]? = some x → Op.bytesLess x.toList s.toList = false := fun x hx => by
    have : x ∈ hi id s l := by
      rw [← hhi]
      exact List.mem_of_getElem? (i := 0) (by rw [List.getElem?_drop]; exact hx)
    exact hi_above id hs x this
  have HW : Hid (∀ x, l[n]? = some x → x = s → withL l s = l) := fun x hx e => by
    unfold withL
    have : hi id s l = x :: l.drop (n + 1) := by
      rw [← hhi]
      have hlt := (List.getElem?_eq_some_iff.1 hx).1
      rw [List.drop_eq_getElem_cons hlt]
      congr 1
      exact (List.getElem?_eq_some_iff.1 hx).2
    rw [this, e]
    simp
  have HW2 : Hid ((∀ x, l[n]? = some x → x ≠ s) → withL l s = l.take n ++ s :: l.drop n) := fun hne => by
    unfold withL
    rw [hlo, hhi]
    cases e : hi id s l with
    | nil =>
      have := lo_hi id s l
      rw [e, List.append_nil] at this
      rw [this]
    | cons z r =>
      have hz : l[n]? = some z := by
        have h2 := congrArg (fun t => t[0]?) hhi
        simp only [List.getElem?_drop, e] at h2
        simpa using h2
      simp only [keq_false (hne z hz)]
      simp
  have HLW := Lib.hid (And.intro hlow hup)
  clear hlo hhi hn hlow hup hs hsz hi0 hz0 hz1 hz2 hB
  rcases h.form with ⟨rfl, rfl⟩ | ⟨g, cap, rfl, hcap, hg, hcs⟩
  · have hn0 : n = 0 := by simpa using hnl
    subst hn0
    have HE : Hid (withL [] s = [s]) := HW2.out (fun x hx => by simp at hx)
    clear h hnl hl
    go_enter Try.func57, Try.ntmps57
    go_wp2
    go_loopg [5] 0 (fun cnt s w1 => WRel 0 w cnt s w1)
    case atStart => exact ⟨0, rfl, rfl, rfl⟩
    case round =>
      obtain ⟨k, hk, rfl, rfl⟩ := hrel
      obtain rfl : k = 0 := by omega
      clear hk
      go_wp2_with (at_builtin; refine wpList_append_src rfl (.tmp 34) (.tmp 37) 22 rfl wr.heap.size 9 i0 _ 1 16 Try.underlying22 HI.out.1 HI.out.2.1 HI.out.2.2.1 HI.out.2.2.2 rfl (by decide) _ 0 [] rfl (World.ownsRow_nil _ _ _ _) _ 0 _ [] rfl ?h01 ?h02 ?h03 ?h04 ?h05 ?h06 (Nat.le_refl _) ?_)
      case h01 => rfl
      case h03 => intro ad had j u hu; simp at hu
      case h04 => intro u hu; cases hu
      case h05 => unfold maxLen; omega
      case h06 => omega
      intro v1 w1 hown1 hg1
      have hb1 : Below wr.heap.size wr w1 := (Below.refl _ _).grown hg1 (Nat.le_refl _) (fun k hk => by cases hk)
      have hs1' : wr.heap.size ≤ w1.heap.size := hb1.size
      have HO1 := Lib.hid hown1
      have HB1 := Lib.hid hb1
      clear hown1 hg1 hb1
      go_wp2_with (at_builtin; refine wpList_append_src rfl (.tmp 39) (.tmp 41) 22 rfl wr.heap.size 9 i0 _ 1 16 Try.underlying22 HI.out.1 HI.out.2.1 HI.out.2.2.1 HI.out.2.2.2 rfl (by decide) _ _ _ rfl (HO1.out.alloc _) _ 1 _ [.string s] rfl ?h11 ?h12 ?h13 ?h14 ?h15 ?h16 ?h17 ?_)
      case h11 => rfl
      case h12 => intro h; cases h
      case h13 =>
        intro ad had j u hu
        injection had with had
        subst had
        rw [addr_add, Nat.zero_add, World.cell?_alloc_new]
        simpa using hu
      case h14 => intro u hu; simp at hu; subst hu; rfl
      case h15 => unfold maxLen; omega
      case h16 => omega
      case h17 => simp; omega
      intro v2 w2 hown2 hg2
      obtain ⟨g2, cap2, rfl⟩ := owns_some hown2
      have hb2 : Below wr.heap.size wr w2 := (HB1.out.alloc hs1' _).grown hg2 (by simp; omega) (fun k hk => (HO1.out.lt k hk).1)
      have hs2' : wr.heap.size ≤ w2.heap.size := hb2.size
      have HO2 := Lib.hid hown2
      have HB2 := Lib.hid hb2
      clear hown2 hg2 hb2
      go_wp2_with (at_builtin; refine wpList_append_src rfl (.tmp 43) (.tmp 46) 22 rfl wr.heap.size 9 i0 _ 1 16 Try.underlying22 HI.out.1 HI.out.2.1 HI.out.2.2.1 HI.out.2.2.2 rfl (by decide) _ _ _ rfl HO2.out _ 0 _ [] rfl ?h21 ?h22 ?h23 ?h24 ?h25 ?h26 ?h27 ?_)
      case h21 => rfl
      case h23 => intro ad had j u hu; simp at hu
      case h24 => intro u hu; cases hu
      case h25 => unfold maxLen; omega
      case h26 => omega
      case h27 => exact hs2'
      intro v3 w3 hown3 hg3
      have hb3 : Below wr.heap.size wr w3 := HB2.out.grown hg3 hs2' (fun k hk => (HO2.out.lt k hk).1)
      have HF : Hid (Own B w3 v3 (withL [] s) ∧ Below wr.heap.size wr w3) := by
        refine ⟨?_, hb3⟩
        rw [HE.out]
        exact owns_mono (show w3.ownsRow wr.heap.size 9 1 v3 1 [.string s] by simpa using hown3) HB.out
      clear hown3 hg3 hb3
      go_wp2
      go_ret
      exact ⟨_, rfl, HF.out⟩
  · have HC := Lib.hid hcs
    have hlI : (l.length : Int) ≤ 8 := by omega
    have hcI : (l.length : Int) ≤ (cap : Int) := by omega
    clear h hcs
    go_enter Try.func57, Try.ntmps57
    go_wp2
    go_loopg [5] n (fun cnt s w1 => WRel n w cnt s w1)
    case atStart => exact ⟨0, by omega, rfl, rfl⟩
    case round =>
      obtain ⟨k, hk, rfl, rfl⟩ := hrel
      have HK := Lib.hid hk
      by_cases hlt : k < n
      · have hkl : k < l.length := by omega
        have hget := List.getElem?_eq_getElem hkl
        have c1 := HC.out k _ hget
        have t1 := HLW.out.1 k _ hlt hget
        have hkI : (k : Int) < (l.length : Int) := by omega
        generalize l[k] = x at *
        clear hget hk
        go_wp2
        go_roundg (n - (k + 1))
        case measure => have := HK.out; omega
        case rel => exact ⟨k + 1, by have := HK.out; omega, by simp, rfl⟩
      · have hkn : k = n := by omega
        subst hkn
        clear hk HK hlt
        by_cases hend : k < l.length
        · have hget := List.getElem?_eq_getElem hend
          have c1 := HC.out k _ hget
          have t1 := HLW.out.2 _ hget
          have hkI : (k : Int) < (l.length : Int) := by omega
          by_cases heq : l[k] = s
          · have HE := Lib.hid (HW.out _ hget heq)
            have t2 : (l[k].toList == s.toList) = true := (keq_iff _ _).2 heq
            have HF : Hid (Own B wr (.slice (some ⟨g, 0, none⟩) l.length cap) (withL l s) ∧ Below wr.heap.size wr wr) := by rw [HE.out]; exact ⟨HO.out, Below.refl _ _⟩
            generalize l[k] = x at *
            clear hget heq
            go_wp2
            go_ret
            exact ⟨_, rfl, HF.out⟩
          · have HE := Lib.hid (HW2.out (fun x hx => by rw [hget] at hx; injection hx with hx; rw [← hx]; exact heq))
            have t2 : (l[k].toList == s.toList) = false := keq_false heq
            have hst : ∀ x : Bool, x = x := fun _ => rfl
            generalize l[k] = x at *
            clear hget heq hst
            go_wp2_with (at_builtin; refine wpList_append_src rfl (.tmp 34) (.tmp 37) 22 rfl wr.heap.size 9 i0 _ 1 16 Try.underlying22 HI.out.1 HI.out.2.1 HI.out.2.2.1 HI.out.2.2.2 rfl (by decide) _ 0 [] rfl (World.ownsRow_nil _ _ _ _) _ k _ ((l.take k).map Value.string) rfl ?h31 ?h32 ?h33 ?h34 ?h35 ?h36 (Nat.le_refl _) ?_)
            case h31 => simp; omega
            case h32 => intro h; cases h
            case h33 =>
              intro ad had j u hu
              injection had with had
              subst had
              rw [addr_add, Nat.zero_add]
              rw [List.getElem?_map] at hu
              cases hlj : (l.take k)[j]? with
              | none => rw [hlj] at hu; cases hu
              | some y =>
                rw [hlj] at hu
                rw [List.getElem?_take] at hlj
                split at hlj
                · rw [HC.out j y hlj]; exact hu
                · cases hlj
            case h34 => intro u hu; obtain ⟨y, _, rfl⟩ := List.mem_map.1 hu; rfl
            case h35 => unfold maxLen; omega
            case h36 => omega
            intro v1 w1 hown1 hg1
            have hb1 : Below wr.heap.size wr w1 := (Below.refl _ _).grown hg1 (Nat.le_refl _) (fun k hk => by cases hk)
            have hs1' : wr.heap.size ≤ w1.heap.size := hb1.size
            have HO1 := Lib.hid hown1
            have HB1 := Lib.hid hb1
            clear hown1 hg1 hb1
            go_wp2_with (at_builtin; refine wpList_append_src rfl (.tmp 39) (.tmp 41) 22 rfl wr.heap.size 9 i0 _ 1 16 Try.underlying22 HI.out.1 HI.out.2.1 HI.out.2.2.1 HI.out.2.2.2 rfl (by decide) _ _ _ rfl (HO1.out.alloc _) _ 1 _ [.string s] rfl ?h41 ?h42 ?h43 ?h44 ?h45 ?h46 ?h47 ?_)
            case h41 => rfl
            case h42 => intro h; cases h
            case h43 =>
              intro ad had j u hu
              injection had with had
              subst had
              rw [addr_add, Nat.zero_add, World.cell?_alloc_new]
              simpa using hu
            case h44 => intro u hu; simp at hu; subst hu; rfl
            case h45 => unfold maxLen; omega
            case h46 => omega
            case h47 => simp; omega
            intro v2 w2 hown2 hg2
            obtain ⟨g2, cap2, rfl⟩ := owns_some hown2
            have hb2 : Below wr.heap.size wr w2 := (HB1.out.alloc hs1' _).grown hg2 (by simp; omega) (fun k hk => (HO1.out.lt k hk).1)
            have hs2' : wr.heap.size ≤ w2.heap.size := hb2.size
            have HO2 := Lib.hid hown2
            have HB2 := Lib.hid hb2
            clear hown2 hg2 hb2
            go_wp2_with (at_builtin; refine wpList_append_src rfl (.tmp 43) (.tmp 46) 22 rfl wr.heap.size 9 i0 _ 1 16 Try.underlying22 HI.out.1 HI.out.2.1 HI.out.2.2.1 HI.out.2.2.2 rfl (by decide) _ _ _ rfl HO2.out _ (l.length - k) _ ((l.drop k).map Value.string) rfl ?h51 ?h52 ?h53 ?h54 ?h55 ?h56 ?h57 ?_)
            case h51 => simp
            case h52 => intro h; cases h
            case h53 =>
              intro ad2 had j u hu
              have hj : j < l.length - k := by
                have := (List.getElem?_eq_some_iff.1 hu).1
                simpa using this
              have hold : ∀ o, w2.cell? ⟨g, o, none⟩ = wr.cell? ⟨g, o, none⟩ := fun o => HB2.out.cell (p := ⟨g, o, none⟩) hg
              injection had with had
              subst had
              rw [addr_add, hold]
              rw [List.getElem?_map, List.getElem?_drop] at hu
              cases hlj : l[k + j]? with
              | none => rw [hlj] at hu; cases hu
              | some y =>
                rw [hlj] at hu
                rw [HC.out _ y hlj]
                exact hu
            case h54 => intro u hu; obtain ⟨y, _, rfl⟩ := List.mem_map.1 hu; rfl
            case h55 => unfold maxLen; omega
            case h56 => omega
            case h57 => exact hs2'
            intro v3 w3 hown3 hg3
            have hb3 : Below wr.heap.size wr w3 := HB2.out.grown hg3 hs2' (fun k hk => (HO2.out.lt k hk).1)
            have HF : Hid (Own B w3 v3 (withL l s) ∧ Below wr.heap.size wr w3) := by
              refine ⟨?_, hb3⟩
              rw [HE.out]
              have e1 : (l.take k ++ s :: l.drop k).length = k + 1 + (l.length - k) := by simp; omega
              unfold Own
              rw [e1]
              refine owns_mono ?_ HB.out
              have e2 : (l.take k ++ s :: l.drop k).map Value.string = (l.take k).map Value.string ++ [Value.string s] ++ (l.drop k).map Value.string := by simp
              rw [e2]
              have h3 := hown3
              simp only [List.append_assoc, List.map_take, List.map_drop, List.cons_append, List.nil_append] at h3 ⊢
              exact h3
            obtain ⟨g3, cap3, hv3⟩ : ∃ g3 cap3, v3 = .slice (some ⟨g3, 0, none⟩) (k + 1 + (l.length - k)) cap3 := by
              have h3 := hown3
              rw [show k + 1 + (l.length - k) = k + (l.length - k) + 1 from by omega] at h3 ⊢
              exact owns_some h3
            subst hv3
            clear hown3 hg3 hb3
            go_wp2
            go_ret
            exact ⟨_, rfl, HF.out⟩
        · have HE := Lib.hid (HW2.out (fun x hx => by rw [List.getElem?_eq_none (by omega)] at hx; cases hx))
          have ek : decide (k < l.length) = false := by simp; omega
          have ek2 : decide ((k : Int) < (l.length : Int)) = false := by simp; omega
          go_wp2_with (at_builtin; refine wpList_append_src rfl (.tmp 34) (.tmp 37) 22 rfl wr.heap.size 9 i0 _ 1 16 Try.underlying22 HI.out.1 HI.out.2.1 HI.out.2.2.1 HI.out.2.2.2 rfl (by decide) _ 0 [] rfl (World.ownsRow_nil _ _ _ _) _ k _ ((l.take k).map Value.string) rfl ?h31 ?h32 ?h33 ?h34 ?h35 ?h36 (Nat.le_refl _) ?_)
          case h31 => simp; omega
          case h32 => intro h; cases h
          case h33 =>
            intro ad had j u hu
            injection had with had
            subst had
            rw [addr_add, Nat.zero_add]
            rw [List.getElem?_map] at hu
            cases hlj : (l.take k)[j]? with
            | none => rw [hlj] at hu; cases hu
            | some y =>
              rw [hlj] at hu
              rw [List.getElem?_take] at hlj
              split at hlj
              · rw [HC.out j y hlj]; exact hu
              · cases hlj
          case h34 => intro u hu; obtain ⟨y, _, rfl⟩ := List.mem_map.1 hu; rfl
          case h35 => unfold maxLen; omega
          case h36 => omega
          intro v1 w1 hown1 hg1
          have hb1 : Below wr.heap.size wr w1 := (Below.refl _ _).grown hg1 (Nat.le_refl _) (fun k hk => by cases hk)
          have hs1' : wr.heap.size ≤ w1.heap.size := hb1.size
          have HO1 := Lib.hid hown1
          have HB1 := Lib.hid hb1
          clear hown1 hg1 hb1
          go_wp2_with (at_builtin; refine wpList_append_src rfl (.tmp 39) (.tmp 41) 22 rfl wr.heap.size 9 i0 _ 1 16 Try.underlying22 HI.out.1 HI.out.2.1 HI.out.2.2.1 HI.out.2.2.2 rfl (by decide) _ _ _ rfl (HO1.out.alloc _) _ 1 _ [.string s] rfl ?h41 ?h42 ?h43 ?h44 ?h45 ?h46 ?h47 ?_)
          case h41 => rfl
          case h42 => intro h; cases h
          case h43 =>
            intro ad had j u hu
            injection had with had
            subst had
            rw [addr_add, Nat.zero_add, World.cell?_alloc_new]
            simpa using hu
          case h44 => intro u hu; simp at hu; subst hu; rfl
          case h45 => unfold maxLen; omega
          case h46 => omega
          case h47 => simp; omega
          intro v2 w2 hown2 hg2
          obtain ⟨g2, cap2, rfl⟩ := owns_some hown2
          have hb2 : Below wr.heap.size wr w2 := (HB1.out.alloc hs1' _).grown hg2 (by simp; omega) (fun k hk => (HO1.out.lt k hk).1)
          have hs2' : wr.heap.size ≤ w2.heap.size := hb2.size
          have HO2 := Lib.hid hown2
          have HB2 := Lib.hid hb2
          clear hown2 hg2 hb2
          go_wp2_with (refine wpList_slice_lo rfl 22 9 (.tmp 44) (.tmp 45) rfl g l.length cap k 1 .i64 rfl rfl Try.underlying22 HSZ.out hnl hcap ?_)
          intro ad
          go_wp2_with (at_builtin; refine wpList_append_src rfl (.tmp 43) (.tmp 46) 22 rfl wr.heap.size 9 i0 _ 1 16 Try.underlying22 HI.out.1 HI.out.2.1 HI.out.2.2.1 HI.out.2.2.2 rfl (by decide) _ _ _ rfl HO2.out _ (l.length - k) _ ((l.drop k).map Value.string) rfl ?h51 ?h52 ?h53 ?h54 ?h55 ?h56 ?h57 ?_)
          case h51 => simp
          case h52 => intro h; cases h
          case h53 =>
            intro ad2 had j u hu
            have hj : j < l.length - k := by
              have := (List.getElem?_eq_some_iff.1 hu).1
              simpa using this
            omega
          case h54 => intro u hu; obtain ⟨y, _, rfl⟩ := List.mem_map.1 hu; rfl
          case h55 => unfold maxLen; omega
          case h56 => omega
          case h57 => exact hs2'
          intro v3 w3 hown3 hg3
          have hb3 : Below wr.heap.size wr w3 := HB2.out.grown hg3 hs2' (fun k hk => (HO2.out.lt k hk).1)
          have HF : Hid (Own B w3 v3 (withL l s) ∧ Below wr.heap.size wr w3) := by
            refine ⟨?_, hb3⟩
            rw [HE.out]
            have e1 : (l.take k ++ s :: l.drop k).length = k + 1 + (l.length - k) := by simp; omega
            unfold Own
            rw [e1]
            refine owns_mono ?_ HB.out
            have e2 : (l.take k ++ s :: l.drop k).map Value.string = (l.take k).map Value.string ++ [Value.string s] ++ (l.drop k).map Value.string := by simp
            rw [e2]
            have h3 := hown3
            simp only [List.append_assoc, List.map_take, List.map_drop, List.cons_append, List.nil_append] at h3 ⊢
            exact h3
          obtain ⟨g3, cap3, hv3⟩ : ∃ g3 cap3, v3 = .slice (some ⟨g3, 0, none⟩) (k + 1 + (l.length - k)) cap3 := by
            have h3 := hown3
            rw [show k + 1 + (l.length - k) = k + (l.length - k) + 1 from by omega] at h3 ⊢
            exact owns_some h3
          subst hv3
          clear hown3 hg3 hb3
          go_wp2
          go_ret
          exact ⟨_, rfl, HF.out⟩

end Rr
end Go.Proofs.Ytpkiiimbichooaa
