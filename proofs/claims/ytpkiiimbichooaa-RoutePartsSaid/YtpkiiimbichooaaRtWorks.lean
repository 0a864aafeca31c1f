/-
  Walk: 'works' (scriptoriumlaw25): the chapter's route answers as the chapter says.
-/
import Derived.Test.YtpkiiimbichooaaRtParts
namespace Go.Proofs.Ytpkiiimbichooaa
open Go.RowKit Sk
namespace Rt

theorem kl_eqD (a b : ByteArray) : kl a b = Op.bytesLess a.data.toList b.data.toList := by unfold kl; rw [ByteArray.toList_eq, ByteArray.toList_eq]

/-- the chapter's splits -/
def dm : List ByteArray := [⟨#[100]⟩, ⟨#[109]⟩]
theorem ok_dm : okB dm = true := by
  unfold okB
  rw [show List.range dm.length = [0, 1] from rfl]
  simp only [List.all_cons, List.all_nil, good, kl_eqD]
  rfl
theorem len_dm : (edges dm).length = 4 := rfl
theorem new_dm : newE dm 2 = 0 := by unfold newE; rw [ok_dm]; rfl
def kf : Nat → ByteArray
  | 0 => ⟨#[97]⟩
  | 1 => ⟨#[100]⟩
  | 2 => ⟨#[108]⟩
  | _ => ⟨#[122]⟩
def wf : Nat → Int
  | 0 => 0
  | 1 => 1
  | 2 => 1
  | _ => 2
theorem shard_dm {k : Nat} (hk : k < 4) : ((shard (edges dm) (kf k) : Nat) : Int) = wf k := by
  have : k = 0 ∨ k = 1 ∨ k = 2 ∨ k = 3 := by omega
  rcases this with rfl | rfl | rfl | rfl <;> (simp only [shard, fnd, cnt, lo, kl_eqD]; rfl)
theorem cnt_dm {k : Nat} (hk : k < 4) : 1 ≤ cnt (edges dm) (kf k) := by
  have : k = 0 ∨ k = 1 ∨ k = 2 ∨ k = 3 := by omega
  rcases this with rfl | rfl | rfl | rfl <;> (simp only [cnt, lo, kl_eqD]; decide)
theorem isK_kf {k : Nat} (hk : k < 4) : isK (kf k) = true := by
  have : k = 0 ∨ k = 1 ∨ k = 2 ∨ k = 3 := by omega
  rcases this with rfl | rfl | rfl | rfl <;> rfl
def pw : List Pt := [⟨0, 1, ⟨#[99]⟩, ⟨#[100]⟩⟩, ⟨1, 2, ⟨#[100]⟩, ⟨#[109]⟩⟩, ⟨2, 1, ⟨#[109]⟩, ⟨#[110]⟩⟩]
theorem parts_dm : partsTo (edges dm) 2 ⟨#[99]⟩ ⟨#[110]⟩ 3 = pw := by
  unfold partsTo
  rw [show List.range 3 = [0, 1, 2] from rfl]
  simp only [List.flatMap_cons, List.flatMap_nil, partOf, meets, mx, mn, kl_eqD]
  rfl
theorem chk_cn : chk ⟨#[99]⟩ ⟨#[110]⟩ = 0 := by simp only [chk, kl_eqD]; rfl

theorem Own.cells {B : Nat} {w : World} {u : Value} {l : List Pt} (h : Own B w u l) : ∃ A c, u = .slice A l.length c ∧ (A = none → l.length = 0) ∧
    ∀ k p, l[k]? = some p → ∃ g, A = some ⟨g, 0, none⟩ ∧ B ≤ g ∧ g < w.heap.size ∧ w.cell? ⟨g, k * 4, none⟩ = some (.int .i64 p.i) ∧ w.cell? ⟨g, k * 4 + 1, none⟩ = some (.int .i64 p.n) ∧ w.cell? ⟨g, k * 4 + 2, none⟩ = some (.string p.a) ∧ w.cell? ⟨g, k * 4 + 3, none⟩ = some (.string p.b) := by
  unfold Own at h
  rcases owns_form h with ⟨hv, h0, _⟩ | ⟨g, cap, hv, hB, _⟩
  · exact ⟨none, 0, by rw [hv, h0], fun _ => h0, fun k p hp => by have := (List.getElem?_eq_some_iff.1 hp).1; omega⟩
  · refine ⟨some ⟨g, 0, none⟩, cap, hv, fun e => (by cases e), fun k p hp => ?_⟩
    subst hv
    have hc := h.cells (g := g) rfl
    have key : ∀ j u, j < 4 → (rcP p)[j]? = some u → w.cell? ⟨g, k * 4 + j, none⟩ = some u := fun j u hj hu => by
      have := hc (k * 4 + j) u (by rw [flat_get rcP_len hp hj]; exact hu)
      rw [addr_add, Nat.zero_add] at this
      exact this
    have c0 := key 0 _ (by omega) rfl
    exact ⟨g, rfl, hB, World.block_lt_of_cell? w _ c0, c0, key 1 _ (by omega) rfl, key 2 _ (by omega) rfl, key 3 _ (by omega) rfl⟩

/-- the two splits in a new block -/
theorem strs_dm (w : World) : Strs (w.alloc (.cells #[.string ⟨#[100]⟩, .string ⟨#[109]⟩] 9)) (some ⟨w.heap.size, 0, none⟩) 2 2 dm :=
  ⟨rfl, Nat.le_refl _, fun e => (by cases e), fun k x hx => ⟨w.heap.size, 0, rfl, by
    rw [Nat.zero_add, World.cell?_alloc_new]
    match k, hx with
    | 0, hx => simpa [dm] using hx
    | 1, hx => simpa [dm] using hx
    | k + 2, hx => simp [dm] at hx⟩⟩

def LoopRel (m : Nat) (w : World) (cnt : Nat) (s : Value) (w1 : World) : Prop := ∃ k q, k + cnt = m ∧ s = .int .i64 (k : Nat) ∧ w1 = w.drewN q

set_option maxRecDepth 100000 in
set_option maxHeartbeats 2000000 in
theorem works_any (w : World) : Calls Try.prog 10 #[] w fun e w' => e = .returned (.bool true) ∧ Below w.heap.size w w' := by
  have h1 := New_ok (some ⟨w.heap.size, 0, none⟩) 2 2 dm 2 _ (strs_dm w) (by decide) ok_dm (by decide) (by decide)
  have H1 := Lib.hid h1
  clear h1
  go_enter Try.func10, Try.ntmps10
  go_wp2_with fail
  refine H1.out.mono ?_
  rintro e w1 ⟨R, rfl, hr, hb⟩
  have HB1 : Hid (Below w.heap.size w w1) := ((Below.refl _ _).alloc (Nat.le_refl _) _).trans (hb.mono (by simp))
  have HR1 := Lib.hid hr
  have H2 := Lib.hid (Shards_any hr (by decide) (by decide))
  clear hr hb
  go_wp2_with fail
  refine H2.out.mono ?_
  rintro e w' ⟨rfl, rfl⟩
  have e4 : (((edges dm).length - 1 : Nat) : Int) = 3 := rfl
  rw [e4]
  clear e4
  go_wp2
  obtain ⟨wc, hwc⟩ : ∃ wc, wc = (w1.alloc (.cells #[.string ⟨#[97]⟩, .string ⟨#[100]⟩, .string ⟨#[108]⟩, .string ⟨#[122]⟩] 9)).alloc (.cells #[.int .i64 0, .int .i64 1, .int .i64 1, .int .i64 2] 3) := ⟨_, rfl⟩
  have HB2 : Hid (Below w.heap.size w wc) := by
    show Below _ _ _
    rw [hwc]
    exact (HB1.out.alloc HB1.out.size _).alloc (by have := HB1.out.size; simp; omega) _
  have HR2 : Hid (Are (w.alloc (.cells #[.string ⟨#[100]⟩, .string ⟨#[109]⟩] 9)).heap.size wc R (edges dm) 2) := by
    show Are _ _ _ _ _
    rw [hwc]
    exact HR1.out.below (((Below.refl _ _).alloc (Nat.le_refl _) _).alloc (by simp) _)
  have HC : Hid (∀ k, k < 4 → wc.cell? ⟨w1.heap.size, k, none⟩ = some (.string (kf k)) ∧ wc.cell? ⟨w1.heap.size + 1, k, none⟩ = some (.int .i64 (wf k))) := by
    show ∀ k, _
    intro k hk
    rw [hwc]
    have : k = 0 ∨ k = 1 ∨ k = 2 ∨ k = 3 := by omega
    rcases this with rfl | rfl | rfl | rfl <;> (simp only [kf, wf]; constructor <;> go_simp)
  rw [← hwc]
  generalize w1.heap.size = b1 at *
  clear hwc HR1 H1 H2
  go_loopg [5] 4 (fun cnt s wr => LoopRel 4 wc cnt s wr)
  case atStart => exact ⟨0, 0, rfl, rfl, rfl⟩
  case round =>
    obtain ⟨k, q, hk, rfl, rfl⟩ := hrel
    have HK := Lib.hid hk
    by_cases hlt : k < 4
    · obtain ⟨c1, c2⟩ := HC.out k hlt
      have hr := HR2.out.below (below_drewN' (Below.refl _ _) q)
      have h3 := Shard_in hr (by decide) (asc_edges ok_dm) (by decide) (kf k) (isK_kf hlt) (cnt_dm hlt)
      rw [shard_dm hlt] at h3
      have H3 := Lib.hid h3
      generalize kf k = key at *
      generalize wf k = want at *
      clear hk hr h3
      go_wp2_with fail
      refine H3.out.mono ?_
      rintro e w' ⟨rfl, q2, rfl⟩
      go_wp2
      go_roundg (3 - k)
      case measure => have := HK.out; omega
      case rel => exact ⟨k + 1, q + q2, by have := HK.out; omega, by simp, rfl⟩
    · have ek : decide ((k : Int) < 4) = false := by simp; omega
      have hr := HR2.out.below (below_drewN' (Below.refl _ _) q)
      have H4 := Lib.hid (Node_in hr (by decide) (by decide) (by decide) 2 (by decide))
      have H5 := Lib.hid (Node_in hr (by decide) (by decide) (by decide) 1 (by decide))
      have H6 := Lib.hid (Node_out hr (by decide) (by decide) 3 (by decide))
      have h7 := Parts_ok hr (by decide) (by decide) (by decide) ⟨#[99]⟩ ⟨#[110]⟩ chk_cn
      have e3 : (edges dm).length - 1 = 3 := rfl
      rw [e3, parts_dm] at h7
      have H7 := Lib.hid h7
      clear hk hlt hr h7 e3
      go_wp2_with fail
      refine H4.out.mono ?_
      rintro e w' ⟨rfl, rfl⟩
      go_wp2_with fail
      refine H5.out.mono ?_
      rintro e w' ⟨rfl, rfl⟩
      go_wp2_with fail
      refine H6.out.mono ?_
      rintro e w' ⟨rfl, rfl⟩
      go_wp2_with fail
      refine H7.out.mono ?_
      rintro e w5 ⟨u, rfl, hown, hb⟩
      obtain ⟨A, c, hu, _, hcs⟩ := hown.cells
      obtain ⟨g, hA, _, hg, p00, p01, p02, p03⟩ := hcs 0 _ rfl
      obtain ⟨g', hA', _, _, p10, p11, p12, p13⟩ := hcs 1 _ rfl
      obtain ⟨g'', hA'', _, _, p20, p21, p22, p23⟩ := hcs 2 _ rfl
      subst hA
      obtain rfl : g = g' := by simpa using hA'
      obtain rfl : g = g'' := by simpa using hA''
      have hu2 : u = .slice (some ⟨g, 0, none⟩) 3 c := hu
      subst hu2
      simp only [Nat.zero_mul, Nat.zero_add, Nat.one_mul] at p00 p01 p02 p03 p10 p11 p12 p13
      have HB5 : Hid (Below w.heap.size w w5) := (HB2.out.trans (below_drewN' (Below.refl _ _) q)).trans (hb.mono HB2.out.size)
      clear hown hb hcs hA' hA'' hu
      go_wp2
      go_ret
      exact ⟨rfl, HB5.out⟩

end Rt
end Go.Proofs.Ytpkiiimbichooaa
