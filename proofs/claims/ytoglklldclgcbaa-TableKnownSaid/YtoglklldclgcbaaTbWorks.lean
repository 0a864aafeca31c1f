/-
  Walks: 'chapter', 'works'.
-/
import Derived.Test.YtoglklldclgcbaaTbChapter
namespace Go.Proofs.Ytoglklldclgcbaa
open Go.RowKit Sk
namespace Tb

theorem ch2_small : ∀ x ∈ ch2Rows, x.k.size ≤ 1 := by
  intro x hx
  simp only [ch2Rows, List.mem_cons, List.not_mem_nil, or_false] at hx
  rcases hx with rfl | rfl | rfl <;> exact Nat.le_refl 1
set_option maxHeartbeats 1000000 in
theorem chapter_any (w : World) :
    Calls Try.prog 31 #[] w fun e w' => ∃ t P, e = .returned (TP t) ∧ At P w' t chRows ∧ (∀ k, P k → w.heap.size ≤ k) ∧ Below w.heap.size w w' := by
  go_enter Try.func31, Try.ntmps31
  go_wp2_with fail
  refine (New_at 3 w).mono ?_
  rintro e w1 ⟨t, rfl, h, hb⟩
  have H := Lib.hid (And.intro h hb)
  clear h hb
  go_wp2_with fail
  have h2 := ops_new w1 32 chOps #[.string (T1 100), .string (T1 52), .bool false, .string (T1 97), .string (T1 49), .bool false, .string (T1 98), .string (T1 50), .bool false] rfl 3 rfl
  have hb2 : Below w1.heap.size w1 (w1.alloc (.cells #[.string (T1 100), .string (T1 52), .bool false, .string (T1 97), .string (T1 49), .bool false, .string (T1 98), .string (T1 50), .bool false] 32)) := (Below.refl _ _).alloc (Nat.le_refl _) _
  have hap := Apply_at (H.out.1.below hb2) h2 (fun g o hg _ hp => by injection hg with hg; injection hg with hg; subst hg; exact absurd hp.2 (Nat.lt_irrefl _)) (by simp)
  rw [ch_chk, ch_app] at hap
  have HA := Lib.hid hap
  have HB2 := Lib.hid hb2
  clear hap h2 hb2
  refine HA.out.mono ?_
  rintro e w3 ⟨rfl, h3, ht3⟩
  have hF : Hid (∃ P, At P w3 t chRows ∧ (∀ k, P k → w.heap.size ≤ k) ∧ Below w.heap.size w w3) := by
    refine ⟨_, h3, fun k hk => ?_, ?_⟩
    · rcases hk with hk | hk
      · exact hk.1
      · exact Nat.le_trans (Nat.le_trans H.out.2.size HB2.out.size) hk.1
    · exact (H.out.2.trans (HB2.out.mono H.out.2.size)).trans (ht3.to_below (Nat.le_trans H.out.2.size HB2.out.size) (fun k hk => hk.1))
  clear h3 ht3
  go_wp2
  go_ret
  obtain ⟨P, h⟩ := hF.out
  exact ⟨t, P, rfl, h⟩

set_option maxRecDepth 100000 in
set_option maxHeartbeats 4000000 in
theorem works_any (w : World) :
    Calls Try.prog 20 #[] w fun e w' => e = .returned (.bool true) ∧ Below w.heap.size w w' := by
  go_enter Try.func20, Try.ntmps20
  go_wp2_with fail
  refine (chapter_any w).mono ?_
  rintro e w1 ⟨t, P, rfl, h1, hP, hb1⟩
  have HP := Lib.hid hP
  have H1 := Lib.hid (And.intro h1 hb1)
  clear h1 hb1 hP
  go_wp2_with fail
  refine (Get_tb (T1 98) H1.out.1.tab).mono ?_
  rw [ch_getb.1, ch_getb.2]
  rintro e w2 ⟨rfl, hb2⟩
  have H2 := Lib.hid (And.intro (H1.out.1.below hb2) (H1.out.2.trans (hb2.mono H1.out.2.size)))
  clear hb2 H1
  go_wp2_with fail
  refine (Get_tb (T1 99) H2.out.1.tab).mono ?_
  rw [ch_getc.1, ch_getc.2]
  rintro e w3 ⟨rfl, hb3⟩
  have H3 := Lib.hid (And.intro (H2.out.1.below hb3) (H2.out.2.trans (hb3.mono H2.out.2.size)))
  clear hb3 H2
  go_wp2_with fail
  refine (Len_tb H3.out.1.tab).mono ?_
  rw [show chRows.length = 3 from rfl]
  rintro e w' ⟨rfl, rfl⟩
  go_wp2_with fail
  refine (keys_all H3.out.1 ⟨#[]⟩ ⟨#[]⟩ ch_small (by simp [chRows]) _ ch_all).mono ?_
  rintro e w4 ⟨rfl, h4, hb4⟩
  have H4 := Lib.hid (And.intro h4 (H3.out.2.trans (hb4.mono H3.out.2.size)))
  clear h4 hb4 H3
  go_wp2_with fail
  refine (keys_all H4.out.1 (T1 98) (T1 100) ch_small (by simp [chRows]) _ ch_bd).mono ?_
  rintro e w5 ⟨rfl, h5, hb5⟩
  have H5 := Lib.hid (And.intro h5 (H4.out.2.trans (hb5.mono H4.out.2.size)))
  clear h5 hb5 H4
  go_wp2_with fail
  refine (keys_all H5.out.1 ⟨#[98, 98]⟩ ⟨#[]⟩ ch_small (by simp [chRows]) _ ch_bb).mono ?_
  rintro e w6 ⟨rfl, h6, hb6⟩
  have H6 := Lib.hid (And.intro h6 (H5.out.2.trans (hb6.mono H5.out.2.size)))
  clear h6 hb6 H5
  go_wp2_with fail
  refine (keys_all H6.out.1 (T1 100) (T1 98) ch_small (by simp [chRows]) _ ch_db).mono ?_
  rintro e w7 ⟨rfl, h7, hb7⟩
  have H7 := Lib.hid (And.intro h7 (H6.out.2.trans (hb7.mono H6.out.2.size)))
  clear h7 hb7 H6
  go_wp2_with fail
  refine (keys_back H7.out.1 ⟨#[]⟩ ⟨#[]⟩ ch_small ch_ne (by simp [chRows]) _ ch_back).mono ?_
  rintro e w8 ⟨rfl, h8, hb8⟩
  have H8 := Lib.hid (And.intro h8 (H7.out.2.trans (hb8.mono H7.out.2.size)))
  clear h8 hb8 H7
  go_wp2_with fail
  refine (keys_back H8.out.1 (T1 97) (T1 100) ch_small ch_ne (by simp [chRows]) _ ch_bad).mono ?_
  rintro e w9 ⟨rfl, h9, hb9⟩
  have H9 := Lib.hid (And.intro h9 (H8.out.2.trans (hb9.mono H8.out.2.size)))
  clear h9 hb9 H8
  go_wp2_with fail
  have g9 := ops_new w9 32 ch2Ops #[.string (T1 97), .string ⟨#[]⟩, .bool true, .string (T1 99), .string (T1 51), .bool false, .string (T1 99), .string (T1 53), .bool false] rfl 3 rfl
  have hb9a : Below w9.heap.size w9 (w9.alloc (.cells #[.string (T1 97), .string ⟨#[]⟩, .bool true, .string (T1 99), .string (T1 51), .bool false, .string (T1 99), .string (T1 53), .bool false] 32)) := (Below.refl _ _).alloc (Nat.le_refl _) _
  have hap := Apply_at (H9.out.1.below hb9a) g9 (fun g o hg _ hp => by injection hg with hg; injection hg with hg; subst hg; exact absurd (H9.out.1.lt _ hp) (Nat.lt_irrefl _)) (by simp [chRows])
  rw [ch2_chk, ch2_app] at hap
  have HA9 := Lib.hid hap
  have HB9 := Lib.hid hb9a
  clear hap g9 hb9a
  refine HA9.out.mono ?_
  rintro e w10 ⟨rfl, h10, ht10⟩
  have H10 := Lib.hid (show (∃ P, At P w10 t ch2Rows ∧ (∀ k, P k → w.heap.size ≤ k)) ∧ Below w.heap.size w w10 from ⟨⟨_, h10, fun k hk => by
    rcases hk with hk | hk
    · exact HP.out k hk
    · exact Nat.le_trans (Nat.le_trans H9.out.2.size HB9.out.size) hk.1⟩, (H9.out.2.trans (HB9.out.mono H9.out.2.size)).trans (ht10.to_below (Nat.le_trans H9.out.2.size HB9.out.size) (fun k hk => HP.out k hk))⟩)
  clear h10 ht10 HA9 HB9 H9 HP
  go_wp2_with fail
  obtain ⟨P2, hP2⟩ := H10.out.1
  have HP := Lib.hid hP2.2
  have H10' := Lib.hid (And.intro hP2.1 H10.out.2)
  clear hP2 H10
  have H10 := H10'
  clear H10'
  have g10 := ops_new w10 32 ch3Ops #[.string (T1 101), .string (T1 49), .bool false, .string ⟨#[]⟩, .string ⟨#[]⟩, .bool false] rfl 2 rfl
  have hb10a : Below w10.heap.size w10 (w10.alloc (.cells #[.string (T1 101), .string (T1 49), .bool false, .string ⟨#[]⟩, .string ⟨#[]⟩, .bool false] 32)) := (Below.refl _ _).alloc (Nat.le_refl _) _
  have hap := Apply_at (H10.out.1.below hb10a) g10 (fun g o hg _ hp => by injection hg with hg; injection hg with hg; subst hg; exact absurd (H10.out.1.lt _ hp) (Nat.lt_irrefl _)) (by simp [ch2Rows])
  rw [ch3_chk, ch3_app] at hap
  have HA10 := Lib.hid hap
  have HB10 := Lib.hid hb10a
  clear hap g10 hb10a
  refine HA10.out.mono ?_
  rintro e w11 ⟨rfl, h11, ht11⟩
  have H11 := Lib.hid (show (∃ P, At P w11 t ch2Rows ∧ (∀ k, P k → w.heap.size ≤ k)) ∧ Below w.heap.size w w11 from ⟨⟨_, h11, fun k hk => by
    rcases hk with hk | hk
    · exact HP.out k hk
    · exact Nat.le_trans (Nat.le_trans H10.out.2.size HB10.out.size) hk.1⟩, (H10.out.2.trans (HB10.out.mono H10.out.2.size)).trans (ht11.to_below (Nat.le_trans H10.out.2.size HB10.out.size) (fun k hk => HP.out k hk))⟩)
  clear h11 ht11 HA10 HB10 H10 HP
  go_wp2_with fail
  obtain ⟨P3, hP3⟩ := H11.out.1
  have H11' := Lib.hid (And.intro hP3.1 H11.out.2)
  clear hP3
  refine (Rows_tb P3 t ch2Rows w11 H11'.out.1.tab (fun x hx => by have := ch2_small x hx; unfold reachBytes; omega) (by simp [ch2Rows])).mono ?_
  rintro e w12 ⟨v, rfl, hown, hb12⟩
  have H12 := Lib.hid (And.intro (Rws.of_owns hown) (H11'.out.2.trans (hb12.mono H11'.out.2.size)))
  clear hown hb12 H11 H11'
  go_wp2_with fail
  have g12 := rws_new w12 39 ch2Rows #[.string (T1 98), .string (T1 50), .string (T1 99), .string (T1 53), .string (T1 100), .string (T1 52)] rfl 3 rfl
  have hb12a : Below w12.heap.size w12 (w12.alloc (.cells #[.string (T1 98), .string (T1 50), .string (T1 99), .string (T1 53), .string (T1 100), .string (T1 52)] 39)) := (Below.refl _ _).alloc (Nat.le_refl _) _
  have hsame := Same_rows v _ ch2Rows _ (H12.out.1.below hb12a) g12 (by simp [ch2Rows])
  have HS := Lib.hid hsame
  have HB12 := Lib.hid (H12.out.2.trans (hb12a.mono H12.out.2.size))
  clear hsame g12 hb12a H12
  refine HS.out.mono ?_
  rintro e w13 ⟨rfl, q, rfl⟩
  have HB13 := Lib.hid (below_drewN' HB12.out q)
  clear HB12 HS
  go_wp2_with fail
  go_ret
  exact ⟨rfl, HB13.out⟩

end Tb
end Go.Proofs.Ytoglklldclgcbaa
