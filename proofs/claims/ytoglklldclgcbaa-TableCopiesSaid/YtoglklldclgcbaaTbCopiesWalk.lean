/-
  Walk: the law TableCopies.
-/
import Derived.Test.YtoglklldclgcbaaTbCopy
import Derived.Test.YtoglklldclgcbaaTbSeedsWalk
namespace Go.Proofs.Ytoglklldclgcbaa
open Go.RowKit Sk
namespace Tb

/-- three tables, apart from each other, and from the blocks F -/
structure Tri (F : Nat → Prop) (t1 t2 t3 : Nat) (r1 r2 r3 : List Row) (w : World) : Prop where
  ex : ∃ P1 P2 P3, At P1 w t1 r1 ∧ At P2 w t2 r2 ∧ At P3 w t3 r3 ∧ (∀ k, P1 k → ¬ P2 k) ∧ (∀ k, P2 k → ¬ P3 k) ∧ (∀ k, P3 k → ¬ P1 k) ∧ (∀ k, P1 k → ¬ F k) ∧ (∀ k, P2 k → ¬ F k) ∧ (∀ k, P3 k → ¬ F k)
  fl : ∀ k, F k → k < w.heap.size
section
variable {F : Nat → Prop} {t1 t2 t3 : Nat} {r1 r2 r3 : List Row} {w : World}
theorem Tri.rot (h : Tri F t1 t2 t3 r1 r2 r3 w) : Tri F t2 t3 t1 r2 r3 r1 w := by
  obtain ⟨P1, P2, P3, h1, h2, h3, d1, d2, d3, f1, f2, f3⟩ := h.ex
  exact ⟨⟨P2, P3, P1, h2, h3, h1, d2, d3, d1, f2, f3, f1⟩, h.fl⟩
theorem Tri.one (h : Tri F t1 t2 t3 r1 r2 r3 w) : ∃ P, At P w t1 r1 := by
  obtain ⟨P1, _, _, h1, _⟩ := h.ex
  exact ⟨P1, h1⟩
theorem Tri.below (h : Tri F t1 t2 t3 r1 r2 r3 w) {w' : World} (hb : Below w.heap.size w w') : Tri F t1 t2 t3 r1 r2 r3 w' := by
  obtain ⟨P1, P2, P3, h1, h2, h3, d⟩ := h.ex
  exact ⟨⟨P1, P2, P3, h1.below hb, h2.below hb, h3.below hb, d⟩, fun k hk => Nat.lt_of_lt_of_le (h.fl k hk) hb.size⟩
theorem Tri.more (h : Tri F t1 t2 t3 r1 r2 r3 w) {w' : World} (hb : Below w.heap.size w w') : Tri (grew F w.heap.size w'.heap.size) t1 t2 t3 r1 r2 r3 w' := by
  obtain ⟨P1, P2, P3, h1, h2, h3, d1, d2, d3, f1, f2, f3⟩ := h.ex
  refine ⟨⟨P1, P2, P3, h1.below hb, h2.below hb, h3.below hb, d1, d2, d3, fun k hk hF => ?_, fun k hk hF => ?_, fun k hk hF => ?_⟩, fun k hk => ?_⟩
  · rcases hF with hF | hF
    · exact f1 k hk hF
    · have := h1.lt k hk; omega
  · rcases hF with hF | hF
    · exact f2 k hk hF
    · have := h2.lt k hk; omega
  · rcases hF with hF | hF
    · exact f3 k hk hF
    · have := h3.lt k hk; omega
  · rcases hk with hk | hk
    · exact Nat.lt_of_lt_of_le (h.fl k hk) hb.size
    · exact hk.2
theorem Tri.apply (h : Tri F t1 t2 t3 r1 r2 r3 w) {A : Option Addr} {len cap : Nat} {l : List Chg} (ho : Ops w A len cap l) (hA : ∀ g o, A = some ⟨g, o, none⟩ → l ≠ [] → F g) (hr : r1.length ≤ 900000) :
    Calls Try.prog 14 #[TP t1, .slice A len cap] w fun e w' => e = .returned (.int .i64 (chkO l)) ∧ Tri F t1 t2 t3 (appT l r1) r2 r3 w' ∧ Turns (fun k => ¬ F k) w w' := by
  obtain ⟨P1, P2, P3, h1, h2, h3, d1, d2, d3, f1, f2, f3⟩ := h.ex
  refine (Apply_at h1 ho (fun g o hg hl hp => f1 g hp (hA g o hg hl)) hr).mono fun e w' ⟨he, ht, hturn⟩ => ⟨he, ⟨⟨_, P2, P3, ht, h2.keep hturn (fun k hk hp => d1 k hp hk), h3.keep hturn (fun k hk hp => d3 k hk hp), fun k hk hk2 => ?_, d2, fun k hk hk1 => ?_, fun k hk hF => ?_, f2, f3⟩, fun k hk => Nat.lt_of_lt_of_le (h.fl k hk) hturn.size⟩, hturn.mono fun k _ hk => f1 k hk⟩
  · rcases hk with hk | hk
    · exact d1 k hk hk2
    · have := h2.lt k hk2; omega
  · rcases hk1 with hk1 | hk1
    · exact d3 k hk hk1
    · have := h3.lt k hk; omega
  · rcases hk with hk | hk
    · exact f1 k hk hF
    · have := h.fl k hF; omega
end
theorem appT_small {l : List Chg} {r : List Row} (hl : ∀ o ∈ l, o.k.size ≤ reachBytes) (hr : ∀ x ∈ r, x.k.size ≤ reachBytes) : ∀ x ∈ appT l r, x.k.size ≤ reachBytes := fun x hx => by
  rcases mem_appT hx with ⟨o, ho, rfl, _⟩ | hx
  · exact hl o ho
  · exact hr x hx

set_option maxRecDepth 100000 in
set_option maxHeartbeats 8000000 in
theorem copies_walk (A : Option Addr) (len cap : Nat) (ls : List (List Chg)) (A1 : Option Addr) (len1 cap1 : Nat) (la : List Chg) (A2 : Option Addr) (len2 cap2 : Nat) (lb : List Chg) (w : World) (hb : Bts w A len cap ls) (hf : ∀ l ∈ ls, ∀ o ∈ l, Chg.Fine o) (hk : ∀ l ∈ ls, ∀ o ∈ l, o.k.size ≤ reachBytes)
    (hla : Ops w A1 len1 cap1 la) (hka : ∀ o ∈ la, o.k.size ≤ reachBytes) (hlb : Ops w A2 len2 cap2 lb) :
    Calls Try.prog 10 #[.slice A len cap, .slice A1 len1 cap1, .slice A2 len2 cap2] w fun e w' => e = .returned (.bool true) ∧ Below w.heap.size w w' := by
  have HB := Lib.hid (And.intro hb hf)
  have HR := Lib.hid (min_rows ls (min len 30) (Nat.min_le_right _ _) hk)
  have HAB := Lib.hid (And.intro hla (And.intro hlb hka))
  clear hb hf hk hla hlb hka
  go_enter Try.func10, Try.ntmps10
  go_wp2_with fail
  refine (works_any w).mono ?_
  rintro e w1 ⟨rfl, hb1⟩
  have H1 := Lib.hid hb1
  clear hb1
  go_wp2_with fail
  refine (made_any A len cap ls 9 w1 (HB.out.1.below H1.out) HB.out.2).mono ?_
  rintro e w2 ⟨t, b, rfl, htm, hb2⟩
  have HTR := HR.out
  generalize tRows ls (min len 30) = rs at *
  have H2 : Hid (∃ P, At P w2 t rs ∧ (∀ k, P k → w.heap.size ≤ k) ∧ Below w.heap.size w w2) := by
    obtain ⟨P, hP, hPF, _⟩ := htm.ex
    exact ⟨P, hP, fun k hk => Nat.le_trans H1.out.size (Nat.le_of_not_lt (hPF k hk)), H1.out.trans (hb2.mono H1.out.size)⟩
  have HR2 := Lib.hid (And.intro HTR.1 (show rs.length ≤ 3840 from HTR.2.2))
  clear htm hb2 H1 HTR HR HB
  go_wp2_with fail
  obtain ⟨P1, hP1, hP1b, hb2⟩ := H2.out
  refine (Rows_tb P1 t rs w2 hP1.tab HR2.out.1 (Nat.le_trans HR2.out.2 (by omega))).mono ?_
  rintro e w3 ⟨v, rfl, hown, hb3⟩
  have H3 := Lib.hid (And.intro (hP1.below hb3) (And.intro (Rws.of_owns hown) (hb2.trans (hb3.mono hb2.size))))
  have HV := Lib.hid (show ∀ g, v.ownBlock = some g → w2.heap.size ≤ g ∧ g < w3.heap.size from fun g hg => hown.lt g hg)
  have HP1 := Lib.hid (And.intro hP1b (And.intro hP1.lt hb3.size))
  clear hP1 hP1b hb2 hown hb3 H2
  go_wp2_with fail
  refine (Copy_at H3.out.1 HR2.out.1 (Nat.le_trans HR2.out.2 (by omega))).mono ?_
  rintro e w4 ⟨c, P2, rfl, h4, hP2, hb⟩
  have H4 := Lib.hid (And.intro (H3.out.1.below hb) (And.intro h4 (And.intro (H3.out.2.1.below hb) (H3.out.2.2.trans (hb.mono H3.out.2.2.size)))))
  have HP2 := Lib.hid (And.intro hP2 hb.size)
  clear h4 hP2 hb H3
  go_wp2_with fail
  refine (Rows_tb P2 c rs w4 H4.out.2.1.tab HR2.out.1 (Nat.le_trans HR2.out.2 (by omega))).mono ?_
  rintro e w5 ⟨v5, rfl, hown, hb⟩
  have H5 := Lib.hid (And.intro (H4.out.1.below hb) (And.intro (H4.out.2.1.below hb) (And.intro (H4.out.2.2.1.below hb) (And.intro (Rws.of_owns hown) (H4.out.2.2.2.trans (hb.mono H4.out.2.2.2.size))))))
  have HL4 := Lib.hid (And.intro H4.out.2.1.lt hb.size)
  clear hown hb H4
  go_wp2_with fail
  refine (Same_rows v5 v rs w5 H5.out.2.2.2.1 H5.out.2.2.1 (Nat.le_trans HR2.out.2 (by omega))).mono ?_
  rintro e w6 ⟨rfl, q, rfl⟩
  have hb := below_drewN' (Below.refl w5.heap.size w5) q
  have H6 := Lib.hid (And.intro (H5.out.1.below hb) (And.intro (H5.out.2.1.below hb) (And.intro (H5.out.2.2.1.below hb) (H5.out.2.2.2.2.trans (hb.mono H5.out.2.2.2.2.size)))))
  have HL6 := Lib.hid (show w5.heap.size ≤ (w5.drewN q).heap.size from hb.size)
  clear hb H5
  generalize w5.drewN q = w6 at *
  go_wp2_with fail
  refine (Copy_at H6.out.1 HR2.out.1 (Nat.le_trans HR2.out.2 (by omega))).mono ?_
  rintro e w7 ⟨d, P3, rfl, h7, hP3, hb⟩
  have H7 : Hid (Tri (fun k => k < w.heap.size ∨ v.ownBlock = some k) c d t rs rs rs w7 ∧ Rws w7 v rs ∧ Below w.heap.size w w7) := by
    have l1 := HP1.out
    have l2 := HP2.out
    have l4 := HL4.out
    have l6 := HL6.out
    have hsz := hb.size
    have hw2 := H6.out.2.2.2.size
    refine ⟨⟨⟨P2, P3, P1, H6.out.2.1.below hb, h7, H6.out.1.below hb, fun k hk hk3 => ?_, fun k hk hk1 => ?_, fun k hk hk2 => ?_, fun k hk hF => ?_, fun k hk hF => ?_, fun k hk hF => ?_⟩, fun k hk => ?_⟩, H6.out.2.2.1.below hb, H6.out.2.2.2.trans (hb.mono hw2)⟩
    · have := l4.1 k hk; have := hP3 k hk3; omega
    · have := l1.2.1 k hk1; have := hP3 k hk; omega
    · have := l1.2.1 k hk; have := l2.1 k hk2; omega
    · rcases hF with hF | hF
      · have := l2.1 k hk; have := l1.2.2; have := HV.out
        have hx : w.heap.size ≤ w2.heap.size := by
          have := l1.1; exact Nat.le_of_not_lt fun hlt => by
            have h3 := H6.out.1.tab
            obtain ⟨L, x, sd, hti⟩ := h3
            have := l1.1 t hti.pt
            have := l1.2.1 t hti.pt
            omega
        omega
      · have := (HV.out k hF).2; have := l2.1 k hk; omega
    · rcases hF with hF | hF
      · have := hP3 k hk; omega
      · have := (HV.out k hF).2; have := hP3 k hk; omega
    · rcases hF with hF | hF
      · have := l1.1 k hk; omega
      · have := (HV.out k hF).1; have := l1.2.1 k hk; omega
    · rcases hk with hk | hk
      · omega
      · have := (HV.out k hk).2; omega
  clear h7 hP3 hb H6 HP1 HP2 HL4 HL6
  obtain ⟨F, hF⟩ : ∃ F : Nat → Prop, F = fun k => k < w.heap.size ∨ v.ownBlock = some k := ⟨_, rfl⟩
  rw [← hF] at H7
  have HF0 := Lib.hid (show ∀ k, k < w.heap.size → F k from fun k hk => by rw [hF]; exact .inl hk)
  have HFV := Lib.hid (show ∀ k, v.ownBlock = some k → F k from fun k hk => by rw [hF]; exact .inr hk)
  have HBW := Lib.hid (show ∀ W W', w.heap.size ≤ W.heap.size → Turns (fun k => ¬ F k) W W' → Below w.heap.size W W' from fun W W' hs ht => ht.to_below hs (fun k hk => Nat.le_of_not_lt (fun h => hk (HF0.out k h))))
  clear hF HV
  have t1 : (chkO la == chkO la) = true := by simp
  have t2 : (chkO lb == chkO lb) = true := by simp
  generalize hea : chkO la = ea at *
  generalize heb : chkO lb = eb at *
  have HE := Lib.hid (And.intro hea heb)
  clear hea heb
  go_wp2_with fail
  refine (H7.out.1.apply (HAB.out.1.below H7.out.2.2) (fun g o hg hl => HF0.out g (HAB.out.1.f g o hg hl)) (Nat.le_trans HR2.out.2 (by omega))).mono ?_
  rw [HE.out.1]
  rintro e w8 ⟨rfl, h8, hf8⟩
  have H8 := Lib.hid (And.intro h8 (And.intro (H7.out.2.1.keep hf8 (fun g hg _ h => h (HFV.out g hg))) (H7.out.2.2.trans (HBW.out w7 w8 H7.out.2.2.size hf8))))
  clear h8 hf8 H7
  go_wp2_with fail
  obtain ⟨Q1, hQ1⟩ := H8.out.1.rot.rot.one
  refine (Rows_tb Q1 t rs w8 hQ1.tab HR2.out.1 (Nat.le_trans HR2.out.2 (by omega))).mono ?_
  rintro e w9 ⟨v9, rfl, hown, hb⟩
  have H9 := Lib.hid (And.intro (H8.out.1.below hb) (And.intro (H8.out.2.1.below hb) (And.intro (Rws.of_owns hown) (H8.out.2.2.trans (hb.mono H8.out.2.2.size)))))
  clear hown hb hQ1 H8
  go_wp2_with fail
  refine (Same_rows v9 v rs w9 H9.out.2.2.1 H9.out.2.1 (Nat.le_trans HR2.out.2 (by omega))).mono ?_
  rintro e w10 ⟨rfl, q, rfl⟩
  have hb := below_drewN' (Below.refl w9.heap.size w9) q
  have H10 := Lib.hid (And.intro (H9.out.1.below hb) (And.intro (H9.out.2.1.below hb) (H9.out.2.2.2.trans (hb.mono H9.out.2.2.2.size))))
  clear hb H9
  generalize w9.drewN q = w10 at *
  go_wp2_with fail
  obtain ⟨Q2, hQ2⟩ := H10.out.1.rot.one
  refine (Rows_tb Q2 d rs w10 hQ2.tab HR2.out.1 (Nat.le_trans HR2.out.2 (by omega))).mono ?_
  rintro e w11 ⟨v11, rfl, hown, hb⟩
  have H11 := Lib.hid (And.intro (H10.out.1.below hb) (And.intro (H10.out.2.1.below hb) (And.intro (Rws.of_owns hown) (H10.out.2.2.trans (hb.mono H10.out.2.2.size)))))
  clear hown hb hQ2 H10
  go_wp2_with fail
  refine (Same_rows v11 v rs w11 H11.out.2.2.1 H11.out.2.1 (Nat.le_trans HR2.out.2 (by omega))).mono ?_
  rintro e w12 ⟨rfl, q2, rfl⟩
  have hb := below_drewN' (Below.refl w11.heap.size w11) q2
  have H12 := Lib.hid (And.intro (H11.out.1.below hb) (And.intro (H11.out.2.1.below hb) (H11.out.2.2.2.trans (hb.mono H11.out.2.2.2.size))))
  clear hb H11
  generalize w11.drewN q2 = w12 at *
  have HSA := Lib.hid (And.intro (appT_small HAB.out.2.2 HR2.out.1) (show (appT la rs).length ≤ 4000 from Nat.le_trans (appT_len la rs) (by have := HR2.out.2; omega)))
  generalize hra : appT la rs = ra at *
  have HRA := Lib.hid hra
  clear hra
  go_wp2_with fail
  obtain ⟨Q3, hQ3⟩ := H12.out.1.one
  refine (Rows_tb Q3 c ra w12 hQ3.tab HSA.out.1 (Nat.le_trans HSA.out.2 (by omega))).mono ?_
  rintro e w13 ⟨u, rfl, hown, hb⟩
  have H13 := Lib.hid (And.intro (H12.out.1.more hb) (And.intro (H12.out.2.1.below hb) (And.intro (Rws.of_owns hown) (H12.out.2.2.trans (hb.mono H12.out.2.2.size)))))
  have HFU := Lib.hid (show ∀ k, u.ownBlock = some k → grew F w12.heap.size w13.heap.size k from fun k hk => .inr (hown.lt k hk))
  obtain ⟨G, hG⟩ : ∃ G, G = grew F w12.heap.size w13.heap.size := ⟨_, rfl⟩
  rw [← hG] at H13 HFU
  have HGF := Lib.hid (show ∀ k, F k → G k from fun k hk => by rw [hG]; exact .inl hk)
  have HGW := Lib.hid (show ∀ W W', w.heap.size ≤ W.heap.size → Turns (fun k => ¬ G k) W W' → Below w.heap.size W W' from fun W W' hs ht => ht.to_below hs (fun k hk => Nat.le_of_not_lt (fun h => hk (HGF.out k (HF0.out k h)))))
  clear hown hb hQ3 H12 hG
  go_wp2_with fail
  refine (H13.out.1.rot.rot.apply (HAB.out.2.1.below H13.out.2.2.2) (fun g o hg hl => HGF.out g (HF0.out g (HAB.out.2.1.f g o hg hl))) (Nat.le_trans HR2.out.2 (by omega))).mono ?_
  rw [HE.out.2]
  rintro e w14 ⟨rfl, h14, hf14⟩
  have H14 := Lib.hid (And.intro h14 (And.intro (H13.out.2.1.keep hf14 (fun g hg _ h => h (HGF.out g (HFV.out g hg)))) (And.intro (H13.out.2.2.1.keep hf14 (fun g hg _ h => h (HFU.out g hg))) (H13.out.2.2.2.trans (HGW.out w13 w14 H13.out.2.2.2.size hf14)))))
  clear h14 hf14 H13
  generalize appT lb rs = rb at *
  go_wp2_with fail
  obtain ⟨Q4, hQ4⟩ := H14.out.1.rot.one
  refine (Rows_tb Q4 c ra w14 hQ4.tab HSA.out.1 (Nat.le_trans HSA.out.2 (by omega))).mono ?_
  rintro e w15 ⟨v15, rfl, hown, hb⟩
  have H15 := Lib.hid (And.intro (H14.out.1.below hb) (And.intro (H14.out.2.1.below hb) (And.intro (H14.out.2.2.1.below hb) (And.intro (Rws.of_owns hown) (H14.out.2.2.2.trans (hb.mono H14.out.2.2.2.size))))))
  clear hown hb hQ4 H14
  go_wp2_with fail
  refine (Same_rows v15 u ra w15 H15.out.2.2.2.1 H15.out.2.2.1 (Nat.le_trans HSA.out.2 (by omega))).mono ?_
  rintro e w16 ⟨rfl, q3, rfl⟩
  have hb := below_drewN' (Below.refl w15.heap.size w15) q3
  have H16 := Lib.hid (And.intro (H15.out.1.below hb) (And.intro (H15.out.2.1.below hb) (And.intro (H15.out.2.2.1.below hb) (H15.out.2.2.2.2.trans (hb.mono H15.out.2.2.2.2.size)))))
  clear hb H15
  generalize w15.drewN q3 = w16 at *
  go_wp2_with fail
  obtain ⟨Q5, hQ5⟩ := H16.out.1.rot.rot.one
  refine (Rows_tb Q5 d rs w16 hQ5.tab HR2.out.1 (Nat.le_trans HR2.out.2 (by omega))).mono ?_
  rintro e w17 ⟨v17, rfl, hown, hb⟩
  have H17 := Lib.hid (And.intro (H16.out.1.below hb) (And.intro (H16.out.2.1.below hb) (And.intro (H16.out.2.2.1.below hb) (And.intro (Rws.of_owns hown) (H16.out.2.2.2.trans (hb.mono H16.out.2.2.2.size))))))
  clear hown hb hQ5 H16
  go_wp2_with fail
  refine (Same_rows v17 v rs w17 H17.out.2.2.2.1 H17.out.2.1 (Nat.le_trans HR2.out.2 (by omega))).mono ?_
  rintro e w18 ⟨rfl, q4, rfl⟩
  have hb := below_drewN' (Below.refl w17.heap.size w17) q4
  have H18 := Lib.hid (And.intro (H17.out.1.below hb) (And.intro (H17.out.2.2.1.below hb) (H17.out.2.2.2.2.trans (hb.mono H17.out.2.2.2.2.size))))
  clear hb H17
  generalize w17.drewN q4 = w18 at *
  go_wp2_with fail
  refine (H18.out.1.rot.rot.apply (HAB.out.1.below H18.out.2.2) (fun g o hg hl => HGF.out g (HF0.out g (HAB.out.1.f g o hg hl))) (Nat.le_trans HR2.out.2 (by omega))).mono ?_
  rw [HE.out.1, HRA.out]
  rintro e w19 ⟨rfl, h19, hf19⟩
  have H19 := Lib.hid (And.intro h19 (And.intro (H18.out.2.1.keep hf19 (fun g hg _ h => h (HFU.out g hg))) (H18.out.2.2.trans (HGW.out w18 w19 H18.out.2.2.size hf19))))
  clear h19 hf19 H18
  go_wp2_with fail
  obtain ⟨Q6, hQ6⟩ := H19.out.1.one
  refine (Rows_tb Q6 d ra w19 hQ6.tab HSA.out.1 (Nat.le_trans HSA.out.2 (by omega))).mono ?_
  rintro e w20 ⟨v20, rfl, hown, hb⟩
  have H20 := Lib.hid (And.intro (H19.out.1.below hb) (And.intro (H19.out.2.1.below hb) (And.intro (Rws.of_owns hown) (H19.out.2.2.trans (hb.mono H19.out.2.2.size)))))
  clear hown hb hQ6 H19
  go_wp2_with fail
  refine (Same_rows v20 u ra w20 H20.out.2.2.1 H20.out.2.1 (Nat.le_trans HSA.out.2 (by omega))).mono ?_
  rintro e w21 ⟨rfl, q5, rfl⟩
  have hb := below_drewN' (Below.refl w20.heap.size w20) q5
  have H21 := Lib.hid (And.intro (H20.out.1.below hb) (H20.out.2.2.2.trans (hb.mono H20.out.2.2.2.size)))
  clear hb H20
  generalize w20.drewN q5 = w21 at *
  go_wp2_with fail
  refine (H21.out.1.apply (HAB.out.2.1.below H21.out.2) (fun g o hg hl => HGF.out g (HF0.out g (HAB.out.2.1.f g o hg hl))) (Nat.le_trans HSA.out.2 (by omega))).mono ?_
  rw [HE.out.2]
  rintro e w22 ⟨rfl, h22, hf22⟩
  have H22 := Lib.hid (H21.out.2.trans (HGW.out w21 w22 H21.out.2.size hf22))
  clear h22 hf22 H21
  go_wp2_with fail
  go_ret
  exact ⟨rfl, H22.out⟩

end Tb
end Go.Proofs.Ytoglklldclgcbaa
