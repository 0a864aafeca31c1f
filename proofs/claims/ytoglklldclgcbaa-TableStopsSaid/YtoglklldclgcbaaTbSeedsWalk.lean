/-
  Walk: the law TableSeeds.
-/
import Derived.Test.YtoglklldclgcbaaTbMade
import Derived.Lib.SmallJoins
namespace Go.Proofs.Ytoglklldclgcbaa
open Go.RowKit Sk Go.ChangeShapes Go.WideShapes Go.ChangeAt
namespace Tb

section
variable {H : Type} {enc : TypeId × Value → H} {w : World}
theorem pair_open {v : Value} {d : DataW H} {p : List MemPlace} {r : Reach} {b0 : Nat} (hv : Value.okWide Try.prog w r b0 53 v)
    (h : DataW.Trod enc Try.prog w 0 (fun _ => true) true 53 v d p) : ∃ a b, v = .agg #[.int .i64 a, .int .i64 b] := by
  have hu := Try.underlying53
  simp only [Value.okWide, hu] at hv
  obtain ⟨cs, rfl, hsz, _⟩ := hv
  have hc : Try.prog.cellsOf 53 = 2 := by kernel_rfl
  have k3 : Try.prog.cellsOf 3 = 1 := by kernel_rfl
  have hsz2 : cs.size = 2 := hsz.trans hc
  obtain ⟨c0, c1, rfl⟩ : ∃ c0 c1, cs = #[c0, c1] := by
    obtain ⟨l⟩ := cs
    match l, hsz2 with
    | [a, b], _ => exact ⟨a, b, rfl⟩
  obtain ⟨fuel, hf⟩ := h
  obtain ⟨xs, m, _, _, _, hxl, hi⟩ := DataW.trod_array hu hf
  have h0 := hi 0 (by omega)
  have h1 := hi 1 (by omega)
  rw [k3] at h0 h1
  match xs, hxl with
  | [y0, y1], _ =>
    obtain ⟨a, ha, _⟩ := DataW.trod_int Try.underlying3 h0
    obtain ⟨b, hb, _⟩ := DataW.trod_int Try.underlying3 h1
    simp [Value.cells] at ha hb
    exact ⟨a, b, by rw [ha, hb]⟩
end

theorem min_rows (ls : List (List Chg)) (m : Nat) (hm : m ≤ 30) (hk : ∀ l ∈ ls, ∀ o ∈ l, o.k.size ≤ reachBytes) :
    (∀ x ∈ tRows ls m, x.k.size ≤ reachBytes) ∧ (∀ x ∈ tRows ls m, x.k ≠ ⟨#[]⟩) ∧ (tRows ls m).length ≤ 3840 :=
  ⟨tRows_all (Q := fun x => x.k.size ≤ reachBytes) (fun l hl o ho _ => hk l hl o ho) m, tRows_ne ls m, by have := tRows_len ls m; omega⟩

set_option maxRecDepth 100000 in
set_option maxHeartbeats 4000000 in
theorem seeds_walk (A : Option Addr) (len cap : Nat) (ls : List (List Chg)) (sa sb : Int) (key : ByteArray) (w : World) (hb : Bts w A len cap ls) (hf : ∀ l ∈ ls, ∀ o ∈ l, Chg.Fine o) (hk : ∀ l ∈ ls, ∀ o ∈ l, o.k.size ≤ reachBytes) :
    Calls Try.prog 7 #[.slice A len cap, .agg #[.int .i64 sa, .int .i64 sb], .string key] w fun e w' => e = .returned (.bool true) ∧ Below w.heap.size w w' := by
  have HB := Lib.hid (And.intro hb hf)
  have HR := Lib.hid (min_rows ls (min len 30) (Nat.min_le_right _ _) hk)
  clear hb hf hk
  go_enter Try.func7, Try.ntmps7
  go_wp2_with fail
  have hb0 : Below w.heap.size w (w.alloc (.cells #[.int .i64 sa, .int .i64 sb] 53)) := (Below.refl _ w).alloc (Nat.le_refl _) _
  have hk0 : Blk (w.alloc (.cells #[.int .i64 sa, .int .i64 sb] 53)) w.heap.size 53 #[.int .i64 sa, .int .i64 sb] := Blk.new _ _ _
  generalize w.alloc (.cells #[.int .i64 sa, .int .i64 sb] 53) = w0 at *
  refine (works_any w0).mono ?_
  rintro e w1 ⟨rfl, hb1⟩
  have H1 := Lib.hid (And.intro (hb0.trans (hb1.mono hb0.size)) (hk0.below hb1 hk0.lt))
  clear hb0 hk0 hb1
  have c0 : w1.cell? ⟨w.heap.size, 0, none⟩ = some (.int .i64 sa) := H1.out.2.cell 0
  go_wp2_with fail
  refine (made_any A len cap ls sa w1 (HB.out.1.below H1.out.1) HB.out.2).mono ?_
  rintro e w2 ⟨t1, b1, rfl, htm, hb2⟩
  have HTR := HR.out
  generalize hrs : tRows ls (min len 30) = rs at *
  obtain ⟨P1, hP1⟩ := htm.tab
  have H2 := Lib.hid (And.intro (H1.out.1.trans (hb2.mono H1.out.1.size)) (And.intro (H1.out.2.below hb2 H1.out.2.lt) hP1))
  have HRS := Lib.hid hrs
  have HR2 := Lib.hid HTR
  clear htm hb2 hP1 c0 H1 hrs HTR HR
  have c1 : w2.cell? ⟨w.heap.size, 1, none⟩ = some (.int .i64 sb) := H2.out.2.1.cell 1
  go_wp2_with fail
  refine (made_any A len cap ls sb w2 (HB.out.1.below H2.out.1) HB.out.2).mono ?_
  rintro e w3 ⟨t2, b2, rfl, htm, hb3⟩
  rw [HRS.out] at htm
  obtain ⟨P2, hP2⟩ := htm.tab
  have H3 := Lib.hid (And.intro (H2.out.1.trans (hb3.mono H2.out.1.size)) (And.intro (H2.out.2.2.below hb3) hP2))
  clear htm hb3 hP2 c1 H2
  generalize hgv : getV key rs = gv
  generalize hgb : getB key rs = gb
  have HG := Lib.hid (And.intro hgv hgb)
  clear hgv hgb
  go_wp2_with fail
  refine (Get_tb key H3.out.2.1.tab).mono ?_
  rw [HG.out.1, HG.out.2]
  rintro e w4 ⟨rfl, hb⟩
  have H4 := Lib.hid (And.intro (H3.out.1.trans (hb.mono H3.out.1.size)) (And.intro (H3.out.2.1.below hb) (H3.out.2.2.below hb)))
  clear hb H3
  go_wp2_with fail
  refine (Get_tb key H4.out.2.2.tab).mono ?_
  rw [HG.out.1, HG.out.2]
  rintro e w5 ⟨rfl, hb⟩
  have H5 := Lib.hid (And.intro (H4.out.1.trans (hb.mono H4.out.1.size)) (And.intro (H4.out.2.1.below hb) (H4.out.2.2.below hb)))
  clear hb H4
  go_wp2_with fail
  refine (Len_tb H5.out.2.1.tab).mono ?_
  rintro e w' ⟨rfl, rfl⟩
  go_wp2_with fail
  refine (Len_tb H5.out.2.2.tab).mono ?_
  rintro e w' ⟨rfl, rfl⟩
  go_wp2_with fail
  refine (Rows_tb P1 t1 rs _ H5.out.2.1.tab HR2.out.1 (Nat.le_trans HR2.out.2.2 (by omega))).mono ?_
  rintro e w6 ⟨v6, rfl, hown, hb⟩
  have H6 := Lib.hid (And.intro (H5.out.1.trans (hb.mono H5.out.1.size)) (And.intro (H5.out.2.1.below hb) (And.intro (H5.out.2.2.below hb) (Rws.of_owns hown))))
  clear hb H5 hown
  go_wp2_with fail
  refine (Rows_tb P2 t2 rs _ H6.out.2.2.1.tab HR2.out.1 (Nat.le_trans HR2.out.2.2 (by omega))).mono ?_
  rintro e w7 ⟨v7, rfl, hown, hb⟩
  have H7 := Lib.hid (And.intro (H6.out.1.trans (hb.mono H6.out.1.size)) (And.intro (H6.out.2.1.below hb) (And.intro (H6.out.2.2.1.below hb) (And.intro (H6.out.2.2.2.below hb) (Rws.of_owns hown)))))
  clear hb H6 hown
  go_wp2_with fail
  refine (Same_rows v6 v7 rs w7 H7.out.2.2.2.1 H7.out.2.2.2.2 (Nat.le_trans HR2.out.2.2 (by omega))).mono ?_
  rintro e w8 ⟨rfl, q, rfl⟩
  have hb := below_drewN' (Below.refl w7.heap.size w7) q
  have H8 := Lib.hid (And.intro (H7.out.1.trans (hb.mono H7.out.1.size)) (And.intro (H7.out.2.1.below hb) (H7.out.2.2.1.below hb)))
  clear hb H7
  generalize w7.drewN q = w8 at *
  go_wp2_with fail
  refine (ranged_back P1 t1 key ⟨#[]⟩ rs w8 H8.out.2.1.tab HR2.out.2.1 (Nat.le_trans HR2.out.2.2 (by omega))).mono ?_
  rintro e w9 ⟨v9, rfl, hown, hb⟩
  have H9 := Lib.hid (And.intro (H8.out.1.trans (hb.mono H8.out.1.size)) (And.intro (H8.out.2.2.below hb) (Rws.of_owns hown)))
  clear hb H8 hown
  go_wp2_with fail
  refine (ranged_back P2 t2 key ⟨#[]⟩ rs w9 H9.out.2.1.tab HR2.out.2.1 (Nat.le_trans HR2.out.2.2 (by omega))).mono ?_
  rintro e w10 ⟨v10, rfl, hown, hb⟩
  have H10 := Lib.hid (And.intro (H9.out.1.trans (hb.mono H9.out.1.size)) (And.intro (H9.out.2.2.below hb) (Rws.of_owns hown)))
  clear hb H9 hown
  go_wp2_with fail
  refine (Same_rows v9 v10 _ w10 H10.out.2.1 H10.out.2.2 (by rw [List.length_reverse]; exact Nat.le_trans (List.length_filter_le _ _) (Nat.le_trans HR2.out.2.2 (by omega)))).mono ?_
  rintro e w11 ⟨rfl, q, rfl⟩
  have H11 := Lib.hid (below_drewN' H10.out.1 q)
  clear H10
  go_wp2_with fail
  go_ret
  exact ⟨rfl, H11.out⟩

end Tb
end Go.Proofs.Ytoglklldclgcbaa
