/-
  Walk: TableKnown, its last part: tables that are none, and the end.
-/
import Derived.Test.YtoglklldclgcbaaTbKnC
import Derived.Test.YtoglklldclgcbaaTbWorks
namespace Go.Proofs.Ytoglklldclgcbaa
open Go.RowKit Go.Shelf Sk
namespace Tb
attribute [local go_sem] Oper.semAt_some

def NoR (W0 : World) (cnt : Nat) (s19 s20 : Value) (W : World) : Prop := ∃ (k : Nat) (q : Option Addr), k + cnt = 2 ∧ s20 = .int .i64 (k : Nat) ∧ s19 = .pointer q ∧ NoneV W q ∧ Below W0.heap.size W0 W
theorem none_new (W : World) (T : TypeId) (v x : Value) : NoneV (W.alloc (.cells #[.pointer none, v, x] T)) (some ⟨W.heap.size, 0, none⟩) :=
  .inr ⟨_, rfl, by rw [World.cell?_alloc_new]; rfl⟩

set_option maxRecDepth 100000 in
set_option maxHeartbeats 4000000 in
theorem kn_5 (A : Array Value) (w Wc W : World) (g t bu bd D1 D2 : Nat) (hg : w.heap.size = g) (hK : KnS g t [] mostD w Wc) (hbl : Below Wc.heap.size Wc W) (hu1 : Boxed W bu 9 (.string ⟨#[97, 99, 100]⟩)) (hd1 : Boxed W bd 9 (.string ⟨#[100, 99, 97, 65]⟩))
    (hm1 : W.heap[D1]? = some (.deferred (some []))) (hm2 : W.heap[D2]? = some (.deferred (some []))) (hl1 : Wc.heap.size ≤ D1) (hl2 : Wc.heap.size ≤ D2) (hne : D1 ≠ D2) (hsz : A.size = 225)
    (h3 : A[3]? = some (TP t)) (h9 : A[9]? = some (.bool true)) (h11 : A[11]? = some (.int .i64 0)) (h12 : A[12]? = some (.int .i64 0)) (h14 : A[14]? = some (.pointer (some ⟨bu, 0, none⟩))) (h16 : A[16]? = some (.pointer (some ⟨bd, 0, none⟩))) :
    (ktail 19 kb).wpIn Fence.wide 5 Try.prog (bodyPostM Fence.wide 5 Try.prog Try.f11 fun e w' => e = .returned (.bool true) ∧ Below w.heap.size w w') ⟨A, [⟨.collected D2, #[]⟩, ⟨.collected D1, #[]⟩]⟩ W := by
  obtain ⟨u, rfl, hu⟩ := lay225 A hsz
  rw [hu 3 _ h3, hu 9 _ h9, hu 11 _ h11, hu 12 _ h12, hu 14 _ h14, hu 16 _ h16]
  have c1 := hu1.cell
  have c2 := hd1.cell
  have e1 : ((⟨#[97, 99, 100]⟩ : ByteArray).toList == [97, 99, 100]) = true := by simp [tl_lit]
  have e2 : ((⟨#[100, 99, 97, 65]⟩ : ByteArray).toList == [100, 99, 97, 65]) = true := by simp [tl_lit]
  have e3 : ((⟨#[]⟩ : ByteArray).toList == []) = true := by simp [tl_lit]
  have HH := Lib.hid (And.intro hK (And.intro hbl (And.intro hm1 (And.intro hm2 (And.intro hl1 (And.intro hl2 (And.intro hne hg)))))))
  clear h3 h9 h11 h12 h14 h16 hu hsz hK hbl hu1 hd1 hm1 hm2 hl1 hl2 hne hg
  simp only [kb, ktail, Try.f11, Option.getD_some]
  gi_wp2_with fail
  clear c1 c2 e1 e2
  gi_loopg [19, 20] 2 (fun cnt s19 s20 X => NoR W cnt s19 s20 X)
  case atStart => exact ⟨0, none, rfl, rfl, rfl, .inl rfl, Below.refl _ _⟩
  case round =>
    obtain ⟨k, q, hk, rfl, rfl, hno, hbel⟩ := hrel
    by_cases hlt : k < 2
    · have b1 : (k : Int) < 2 := by omega
      have HK := Lib.hid hk
      have H1 := Lib.hid (And.intro hno hbel)
      have hmk : ∀ X, (Instr.makeSlice 27 (.int .i64 200) (.int .i64 200)).run Try.prog X = .ok (.slice (some ⟨X.heap.size, 0, none⟩) 200 200) (X.alloc (.cells (mkO 200) 32)) := mk_run 200 (by omega)
      clear hno hbel hk
      gi_wp2_with (first
        | (refine ⟨trivial, ?_⟩; gi_at_call 21; refine (callsIn_wide.2 (Get_no H1.out.1 _)).mono ?_; rintro e w' ⟨rfl, rfl⟩)
        | (refine ⟨trivial, ?_⟩; gi_at_call 14; refine (callsIn_wide.2 (Apply_no H1.out.1 none 0 0)).mono ?_; rintro e w' ⟨rfl, rfl⟩
           have hb : Below wr.heap.size wr (wr.alloc (.cells (mkO 200) 32)) := (Below.refl _ _).alloc (Nat.le_refl _) _
           have H2 := Lib.hid (And.intro (H1.out.1.below hb) (H1.out.2.trans (hb.mono H1.out.2.size)))
           clear hb H1)
        | (refine ⟨trivial, ?_⟩; gi_at_call 14; refine (callsIn_wide.2 (Apply_no H2.out.1 _ _ _)).mono ?_; rintro e w' ⟨rfl, rfl⟩)
        | (refine ⟨trivial, ?_⟩; gi_at_call 16; refine (callsIn_wide.2 (Len_no H2.out.1)).mono ?_; rintro e w' ⟨rfl, rfl⟩)
        | (refine ⟨trivial, ?_⟩; gi_at_call 18; refine (callsIn_wide.2 (Rows_no H2.out.1)).mono ?_; rintro e w3 ⟨rfl, hb⟩
           have H3 := Lib.hid (And.intro (H2.out.1.below hb) (H2.out.2.trans (hb.mono H2.out.2.size)))
           clear hb H2)
        | (refine ⟨trivial, ?_⟩; gi_at_call 32; refine (callsIn_wide.2 (keys_no H3.out.1 false)).mono ?_; rintro e w4 ⟨rfl, hb⟩
           have H4 := Lib.hid (And.intro (H3.out.1.below hb) (H3.out.2.trans (hb.mono H3.out.2.size)))
           clear hb H3)
        | (refine ⟨trivial, ?_⟩; gi_at_call 32; refine (callsIn_wide.2 (keys_no H4.out.1 true)).mono ?_; rintro e w5 ⟨rfl, hb⟩
           have H5 := Lib.hid (And.intro (H4.out.1.below hb) (H4.out.2.trans (hb.mono H4.out.2.size)))
           clear hb H4)
        | (refine ⟨trivial, ?_⟩; gi_at_call 30; refine (callsIn_wide.2 (Copy_no H5.out.1)).mono ?_; rintro e w6 ⟨rfl, hb⟩
           have H6 := Lib.hid (H5.out.2.trans (hb.mono H5.out.2.size))
           clear hb H5)
        | (refine ⟨trivial, ?_⟩; gi_at_call 14; refine (callsIn_wide.2 (Apply_no (w := w6) (.inl rfl) none 0 0)).mono ?_; rintro e w' ⟨rfl, rfl⟩))
      go_roundg (2 - (k + 1))
      case measure => have := HK.out; omega
      case rel => exact ⟨k + 1, _, by omega, by simp, rfl, none_new _ _ _ _, H6.out.alloc H6.out.size _⟩
    · obtain rfl : k = 2 := by omega
      have H1 := Lib.hid hbel
      clear hno hbel hk hlt
      gi_wp2_with (first
        | (refine ⟨trivial, ?_⟩; gi_at_call 20; refine (callsIn_wide.2 (works_any _)).mono ?_; rintro e w2 ⟨rfl, hb⟩
           have hb2 := H1.out.trans (hb.mono H1.out.size)
           have H2 := Lib.hid (And.intro (HH.out.2.1.trans (hb2.mono HH.out.2.1.size)) hb2)
           clear hb hb2 H1)
        | (refine ⟨trivial, ?_⟩; gi_at_call 16
           obtain ⟨P, hP, _⟩ := (HH.out.1.below H2.out.1).tab
           refine (callsIn_wide.2 (Len_tb hP.tab)).mono ?_; rintro e w' ⟨rfl, rfl⟩
           clear hP))
      have hg := HH.out.2.2.2.2.2.2.2
      subst hg
      have hgl := HH.out.1.lt
      have m1 : w2.heap[D1]? = some (.deferred (some [])) := (H2.out.2.block D1 (Array.getElem?_eq_some_iff.1 HH.out.2.2.1).1).trans HH.out.2.2.1
      have m2 : w2.heap[D2]? = some (.deferred (some [])) := (H2.out.2.block D2 (Array.getElem?_eq_some_iff.1 HH.out.2.2.2.1).1).trans HH.out.2.2.2.1
      have k1 := (World.putObj_heap_other (o := .deferred none) HH.out.2.2.2.2.2.2.1).trans m1
      have d1 := HH.out.2.2.2.2.1
      have d2 := HH.out.2.2.2.2.2.1
      have hB : Below w.heap.size w w2 := HH.out.1.bel.trans (H2.out.1.mono (Nat.le_of_lt hgl))
      refine ⟨by simp, .inl ⟨_, _, rfl, run_takeDeferred m2, ?_⟩⟩
      refine ⟨by simp, .inl ⟨_, _, rfl, run_takeDeferred k1, ?_⟩⟩
      exact ⟨_, results_tmp rfl _ _ _, rfl, (hB.trans (belowK_b (w := w) (Nat.le_refl _) _ D2 _ _ (by omega) m2 rfl rfl)).trans (belowK_b (w := w) (Nat.le_refl _) _ D1 _ _ (by omega) k1 rfl rfl)⟩

end Tb
end Go.Proofs.Ytoglklldclgcbaa
