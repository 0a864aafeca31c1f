/-
  Walks: Shard and Span of a route.
-/
import Derived.Test.YtpkiiimbichooaaRtReads
namespace Go.Proofs.Ytpkiiimbichooaa
open Go.RowKit Sk
namespace Rt

section
variable {B R : Nat} {E : List ByteArray} {n : Int} {w : World}

set_option maxHeartbeats 400000 in
theorem Shard_out (h : Are B w R E n) (hn : 1 ≤ n) (key : ByteArray) (hk : isK key = false) :
    Calls Try.prog 12 #[RP R, .string key] w fun e w' => e = .returned (.tuple #[.int .i64 0, .int .i64 2]) ∧ w = w' := by
  have H1 := Lib.hid (none_no R n w h.n1 hn)
  have h2 := isKey_any key w
  rw [hk] at h2
  have H2 := Lib.hid h2
  clear h hn h2 hk
  go_enter Try.func12, Try.ntmps12
  go_wp2_with fail
  refine H1.out.mono ?_
  rintro e w' ⟨rfl, rfl⟩
  go_wp2_with fail
  refine H2.out.mono ?_
  rintro e w' ⟨rfl, rfl⟩
  go_wp2
  go_ret2
  exact ⟨rfl, rfl⟩

theorem bs_cnt (hE : Asc E) (key : ByteArray) : Lib.bsGo (fun t => Op.bytesLess (ed E t).toList key.toList) E.length 0 E.length = cnt E key := by
  have key2 : Lib.bsGo (fun t => decide (t < E.length) && Op.bytesLess (ed E t).toList key.toList) E.length 0 E.length = cnt E key :=
    Lib.bsGo_spec _ (cnt E key) (fun t ht => by
      have h1 := cnt_below ht
      have h2 := cnt_le E key
      have h3 : Op.bytesLess (ed E t).toList key.toList = true := h1
      rw [h3]; simp; omega) (fun t ht => by
      by_cases hl : t < E.length
      · have h3 : Op.bytesLess (ed E t).toList key.toList = false := cnt_above hE ht hl
        rw [h3]; simp
      · simp [hl]) _ _ _ (by omega) (Nat.zero_le _) (cnt_le E key)
  have key3 : ∀ f lo hi, hi ≤ E.length → Lib.bsGo (fun t => Op.bytesLess (ed E t).toList key.toList) f lo hi = Lib.bsGo (fun t => decide (t < E.length) && Op.bytesLess (ed E t).toList key.toList) f lo hi := by
    intro f
    induction f with
    | zero => intro lo hi _; rfl
    | succ f ih =>
      intro lo hi hh
      unfold Lib.bsGo
      by_cases hlt : lo < hi
      · rw [if_pos hlt, if_pos hlt]
        have hm : (lo + hi) / 2 < E.length := by omega
        rw [ih _ _ hh, ih _ _ (show (lo + hi) / 2 ≤ E.length by omega)]
        simp [hm]
      · rw [if_neg hlt, if_neg hlt]
  rw [key3 _ _ _ (Nat.le_refl _), key2]

theorem Search_any (g cap : Nat) (key : ByteArray) (hE : Asc E) (hlen : E.length ≤ 7) (hc : ∀ j, j < E.length → w.cell? ⟨g, j, none⟩ = some (.string (ed E j))) :
    Calls Try.prog 30 #[.slice (some ⟨g, 0, none⟩) E.length cap, .string key] w fun e w' =>
      e = .returned (.tuple #[.int .i64 (cnt E key : Nat), .bool (fnd E key)]) ∧ ∃ q, w' = w.drewN q :=
  (Try.BinarySearch_string g 0 E.length cap (ed E) key w (by omega) (fun j hj => by rw [Nat.zero_add]; exact hc j hj)).mono fun _ _ ⟨he, hq⟩ => ⟨by rw [he, bs_cnt hE]; rfl, hq⟩

set_option maxHeartbeats 400000 in
theorem Shard_in (h : Are B w R E n) (hn : 1 ≤ n) (hE : Asc E) (hlen : E.length ≤ 7) (key : ByteArray) (hk : isK key = true) (hc1 : 1 ≤ cnt E key) :
    Calls Try.prog 12 #[RP R, .string key] w fun e w' => e = .returned (.tuple #[.int .i64 (shard E key : Nat), .int .i64 0]) ∧ ∃ q, w' = w.drewN q := by
  have H1 := Lib.hid (none_no R n w h.n1 hn)
  have h2 := isKey_any key w
  rw [hk] at h2
  have H2 := Lib.hid h2
  obtain ⟨g, cap, cs, h⟩ := h
  have c0 : w.cell? ⟨R, 0, none⟩ = some (.slice (some ⟨g, 0, none⟩) E.length cap) := h.hdr.cell 0
  have H3 := Lib.hid (Search_any (w := w) g cap key hE hlen fun j hj => h.edge hj)
  have hc9 : cnt E key ≤ 7 := Nat.le_trans (cnt_le E key) hlen
  cases hf : fnd E key with
  | true =>
    have HF := Lib.hid (show shard E key = cnt E key by unfold shard; rw [if_pos hf])
    rw [hf] at H3
    generalize cnt E key = c at *
    clear h hn h2 hk hE hf
    go_enter Try.func12, Try.ntmps12
    go_wp2_with fail
    refine H1.out.mono ?_
    rintro e w' ⟨rfl, rfl⟩
    go_wp2_with fail
    refine H2.out.mono ?_
    rintro e w' ⟨rfl, rfl⟩
    go_wp2_with fail
    refine H3.out.mono ?_
    rintro e w' ⟨rfl, q, rfl⟩
    go_wp2
    go_ret2
    exact ⟨by rw [HF.out]; rfl, q, rfl⟩
  | false =>
    have HF := Lib.hid (show ((shard E key : Nat) : Int) = (cnt E key : Int) - 1 by unfold shard; rw [if_neg (by rw [hf]; simp)]; omega)
    rw [hf] at H3
    generalize cnt E key = c at *
    clear h hn h2 hk hE hf
    go_enter Try.func12, Try.ntmps12
    go_wp2_with fail
    refine H1.out.mono ?_
    rintro e w' ⟨rfl, rfl⟩
    go_wp2_with fail
    refine H2.out.mono ?_
    rintro e w' ⟨rfl, rfl⟩
    go_wp2_with fail
    refine H3.out.mono ?_
    rintro e w' ⟨rfl, q, rfl⟩
    go_wp2
    go_ret2
    exact ⟨by rw [HF.out]; rfl, q, rfl⟩

set_option maxHeartbeats 400000 in
theorem Span_out (h : Are B w R E n) (hn : 1 ≤ n) (hE : 1 ≤ E.length ∧ E.length ≤ 7) (i : Int) (hi : ¬ (0 ≤ i ∧ i < (E.length - 1 : Nat))) :
    Calls Try.prog 14 #[RP R, .int .i64 i] w fun e w' => e = .returned (.tuple #[Sp em em, .int .i64 9]) ∧ Below w.heap.size w w' := by
  have hal := h.below ((Below.refl _ w).alloc (Nat.le_refl _) (.cells #[.string ⟨#[]⟩, .string ⟨#[]⟩] 34))
  have h1 := ask_any hal hn hE i
  have hf : askE (E.length - 1) i = 9 := by unfold askE; rw [if_neg hi]
  rw [hf] at h1
  have H1 := Lib.hid h1
  clear h hn hE hi h1 hf hal
  go_enter Try.func14, Try.ntmps14
  go_wp2_with fail
  refine H1.out.mono ?_
  rintro e w' ⟨rfl, rfl⟩
  go_wp2
  exact bodyPost_ret (v := .tuple #[Sp em em, .int .i64 9]) (by simp [results, Try.results14, go_sem]; rfl) rfl ⟨rfl, (Below.refl _ _).alloc (Nat.le_refl _) _⟩

set_option maxHeartbeats 1000000 in
theorem Span_in (h : Are B w R E n) (hn : 1 ≤ n) (hE : 1 ≤ E.length ∧ E.length ≤ 7) (i : Nat) (hi : i < E.length - 1) :
    Calls Try.prog 14 #[RP R, .int .i64 i] w fun e w' => e = .returned (.tuple #[Sp (ed E i) (ed E (i + 1)), .int .i64 0]) ∧ Below w.heap.size w w' := by
  have hal := h.below ((Below.refl _ w).alloc (Nat.le_refl _) (.cells #[.string ⟨#[]⟩, .string ⟨#[]⟩] 34))
  have h1 := ask_any hal hn hE i
  have hf : askE (E.length - 1) i = 0 := by unfold askE; rw [if_pos (by omega)]
  rw [hf] at h1
  have H1 := Lib.hid h1
  obtain ⟨g, cap, cs, h⟩ := h
  have c0 : w.cell? ⟨R, 0, none⟩ = some (.slice (some ⟨g, 0, none⟩) E.length cap) := h.hdr.cell 0
  have c1 : w.cell? ⟨g, i, none⟩ = some (.string (ed E i)) := h.edge (by omega)
  have c2 : w.cell? ⟨g, i + 1, none⟩ = some (.string (ed E (i + 1))) := h.edge (by omega)
  have lR : R < w.heap.size := h.hdr.lt
  have lg : g < w.heap.size := h.row.lt
  have b1 : i < E.length := by omega
  have b2 : i + 1 < E.length := by omega
  have b3 : (i : Int) < (E.length : Int) := by omega
  have b4 : (i : Int) + 1 < (E.length : Int) := by omega
  have b5 : E.length ≤ 7 := hE.2
  have hw1 : IntKind.i64.wrap ((i : Int) + 1) = (i : Int) + 1 := IntWalk.i64_in _ (by omega)
  have hw2 : (0 : Int) ≤ (i : Int) + 1 := by omega
  have hw3 : ((i : Int) + 1).toNat = i + 1 := by omega
  have hw4 : (0 : Int) ≤ (i : Int) := by omega
  generalize ed E i = x at *
  generalize ed E (i + 1) = y at *
  generalize E.length = m at *
  clear h hn hE hi h1 hf hal
  go_enter Try.func14, Try.ntmps14
  go_wp2_with fail
  refine H1.out.mono ?_
  rintro e w' ⟨rfl, rfl⟩
  go_wp2
  go_region_held3 (fun w' => w'.cell? ⟨R, 0, none⟩ = some (.slice (some ⟨g, 0, none⟩) m cap) ∧ w'.cell? ⟨g, i, none⟩ = some (.string x) ∧ w'.cell? ⟨g, i + 1, none⟩ = some (.string y)) (go_keep) (fail)
  go_wp2
  exact bodyPost_ret (v := .tuple #[Sp x y, .int .i64 0]) (by simp [results, Try.results14, go_sem]) rfl ⟨rfl, ((Below.refl _ _).alloc (Nat.le_refl _) _).drew⟩
end

end Rt
end Go.Proofs.Ytpkiiimbichooaa
