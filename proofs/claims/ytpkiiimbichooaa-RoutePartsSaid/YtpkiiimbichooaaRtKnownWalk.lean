/-
  Walk: the law RouteKnown: what is closed: both ends, what is refused, routes that are none.
-/
import Derived.Test.YtpkiiimbichooaaRtKeysWalk
namespace Go.Proofs.Ytpkiiimbichooaa
open Go.RowKit Sk
namespace Rt

/-! ### routes that are none -/
/-- 'none' says so of this value, from here on -/
def NoneV (v : Value) (w : World) : Prop := v = .pointer none ∨ ∃ R, v = RP R ∧ w.cell? ⟨R, 1, none⟩ = some (.int .i64 0)
theorem NoneV.later {v : Value} {w w' : World} (h : NoneV v w) (hb : Below w.heap.size w w') : NoneV v w' := by
  rcases h with h | ⟨R, h, hc⟩
  · exact .inl h
  · exact .inr ⟨R, h, (hb.cell (p := ⟨R, 1, none⟩) (World.block_lt_of_cell? w _ hc)).trans hc⟩
theorem none_yes {v : Value} {w : World} (h : NoneV v w) : Calls Try.prog 29 #[v] w fun e w' => e = .returned (.bool true) ∧ w = w' := by
  rcases h with rfl | ⟨R, rfl, hc⟩
  · exact none_nil w
  · exact none_bare R w hc
section
variable {v : Value} {w : World}
set_option maxHeartbeats 400000 in
theorem Shard_none (h : NoneV v w) (key : ByteArray) : Calls Try.prog 12 #[v, .string key] w fun e w' => e = .returned (.tuple #[.int .i64 0, .int .i64 1]) ∧ w = w' := by
  have H := Lib.hid (none_yes h)
  clear h
  go_enter Try.func12, Try.ntmps12
  go_wp2_with fail
  refine H.out.mono ?_
  rintro e w' ⟨rfl, rfl⟩
  go_wp2
  go_ret2
  exact ⟨rfl, rfl⟩
set_option maxHeartbeats 400000 in
theorem Shards_none (h : NoneV v w) : Calls Try.prog 13 #[v] w fun e w' => e = .returned (.int .i64 0) ∧ w = w' := by
  have H := Lib.hid (none_yes h)
  clear h
  go_enter Try.func13, Try.ntmps13
  go_wp2_with fail
  refine H.out.mono ?_
  rintro e w' ⟨rfl, rfl⟩
  go_wp2
  go_ret
  exact ⟨rfl, rfl⟩
set_option maxHeartbeats 400000 in
theorem ask_none (h : NoneV v w) (i : Int) : Calls Try.prog 31 #[v, .int .i64 i] w fun e w' => e = .returned (.int .i64 1) ∧ w = w' := by
  have H := Lib.hid (none_yes h)
  clear h
  go_enter Try.func31, Try.ntmps31
  go_wp2_with fail
  refine H.out.mono ?_
  rintro e w' ⟨rfl, rfl⟩
  go_wp2
  go_ret
  exact ⟨rfl, rfl⟩
set_option maxHeartbeats 400000 in
theorem Node_none (h : NoneV v w) (i : Int) : Calls Try.prog 17 #[v, .int .i64 i] w fun e w' => e = .returned (.tuple #[.int .i64 0, .int .i64 1]) ∧ w = w' := by
  have H := Lib.hid (ask_none h i)
  clear h
  go_enter Try.func17, Try.ntmps17
  go_wp2_with fail
  refine H.out.mono ?_
  rintro e w' ⟨rfl, rfl⟩
  go_wp2
  go_ret2
  exact ⟨rfl, rfl⟩
set_option maxHeartbeats 400000 in
theorem Span_none (h : NoneV v w) (i : Int) : Calls Try.prog 14 #[v, .int .i64 i] w fun e w' => e = .returned (.tuple #[Sp em em, .int .i64 1]) ∧ Below w.heap.size w w' := by
  have H := Lib.hid (ask_none (h.later ((Below.refl _ w).alloc (Nat.le_refl _) (.cells #[.string ⟨#[]⟩, .string ⟨#[]⟩] 34))) i)
  clear h
  go_enter Try.func14, Try.ntmps14
  go_wp2_with fail
  refine H.out.mono ?_
  rintro e w' ⟨rfl, rfl⟩
  go_wp2
  exact bodyPost_ret (v := .tuple #[Sp em em, .int .i64 1]) (by simp [results, Try.results14, go_sem]; rfl) rfl ⟨rfl, (Below.refl _ _).alloc (Nat.le_refl _) _⟩
set_option maxHeartbeats 400000 in
theorem Parts_none (h : NoneV v w) (F T : ByteArray) : Calls Try.prog 18 #[v, Sp F T] w fun e w' => e = .returned (.tuple #[.slice none 0 0, .int .i64 1]) ∧ Below w.heap.size w w' := by
  have H := Lib.hid (none_yes (h.later ((Below.refl _ w).alloc (Nat.le_refl _) (.cells #[.string F, .string T] 34))))
  clear h
  go_enter Try.func18, Try.ntmps18
  go_wp2_with fail
  refine H.out.mono ?_
  rintro e w' ⟨rfl, rfl⟩
  go_wp2
  go_ret2
  exact ⟨rfl, (Below.refl _ _).alloc (Nat.le_refl _) _⟩
end

/-! ### texts and plans -/
def lng : ByteArray := ⟨(List.replicate 32 107).toArray⟩
def lk : ByteArray := lng ++ ⟨#[107]⟩
def ff : ByteArray := ⟨(List.replicate 32 255).toArray⟩
theorem lng_size : lng.size = 32 := by simp [lng, ByteArray.size]
theorem lk_size : lk.size = 33 := by unfold lk; rw [ByteArray.size_append, lng_size]; rfl
theorem repeat_k (w : World) : Calls Try.prog 19 #[.string ⟨#[107]⟩, .int .i64 32] w fun e w' => e = .returned (.string lng) ∧ Below w.heap.size w w' :=
  (Try.strings_Repeat ⟨#[107]⟩ 32 w (by omega) (by decide)).mono fun _ _ ⟨he, hb⟩ => ⟨he, hb⟩
theorem repeat_ff (w : World) : Calls Try.prog 19 #[.string ⟨#[255]⟩, .int .i64 32] w fun e w' => e = .returned (.string ff) ∧ Below w.heap.size w w' :=
  (Try.strings_Repeat ⟨#[255]⟩ 32 w (by omega) (by decide)).mono fun _ _ ⟨he, hb⟩ => ⟨he, hb⟩
theorem isK_lng : isK lng = true := by unfold isK; rw [lng_size]; rfl
theorem isK_lk : isK lk = false := by unfold isK; rw [lk_size]; rfl
theorem isK_no : isK ⟨#[]⟩ = false := rfl
theorem isK_f : isK ⟨#[255]⟩ = true := rfl

def bad0 : List ByteArray := [⟨#[]⟩]
def bad1 : List ByteArray := [lk]
def bad2 : List ByteArray := [⟨#[98]⟩, ⟨#[97]⟩]
def bad3 : List ByteArray := [⟨#[97]⟩, ⟨#[97]⟩]
theorem ok_bad0 : okB bad0 = false := by
  unfold okB
  rw [show List.range bad0.length = [0] from rfl]
  simp only [List.all_cons, List.all_nil, good]
  rfl
theorem ok_bad1 : okB bad1 = false := by
  unfold okB
  rw [show List.range bad1.length = [0] from rfl]
  have : good bad1 0 = false := good_bad (x := lk) rfl isK_lk
  simp [this]
theorem ok_bad2 : okB bad2 = false := by
  unfold okB
  rw [show List.range bad2.length = [0, 1] from rfl]
  simp only [List.all_cons, List.all_nil, good, kl_eqD]
  rfl
theorem ok_bad3 : okB bad3 = false := by
  unfold okB
  rw [show List.range bad3.length = [0, 1] from rfl]
  simp only [List.all_cons, List.all_nil, good, kl_eqD]
  rfl
def six : List ByteArray := [⟨#[0]⟩, ⟨#[97]⟩, ⟨#[98]⟩, ⟨#[99]⟩, lng]
theorem ok_six : okB six = true := by
  unfold okB
  rw [show List.range six.length = [0, 1, 2, 3, 4] from rfl]
  simp only [List.all_cons, List.all_nil, good, kl_eqD]
  rfl
theorem ok_one : okB [] = true := rfl
theorem shard_six : shard (edges six) lng = 5 := by simp only [shard, fnd, cnt, lo, kl_eqD]; rfl
theorem cnt_six : 1 ≤ cnt (edges six) lng := by simp only [cnt, lo, kl_eqD]; decide
theorem shard_one : shard (edges []) ⟨#[255]⟩ = 0 := by simp only [shard, fnd, cnt, lo, kl_eqD]; rfl
theorem cnt_one : 1 ≤ cnt (edges []) ⟨#[255]⟩ := by simp only [cnt, lo, kl_eqD]; decide
theorem chk_all : chk ⟨#[]⟩ top = 0 := by simp only [chk, kl_eqD]; rfl
theorem chk_ff : chk ff top = 0 := by simp only [chk, kl_eqD]; rfl
theorem parts_six : (partsTo (edges six) 4 ⟨#[]⟩ top 6).length = 6 := by
  unfold partsTo
  rw [show List.range 6 = [0, 1, 2, 3, 4, 5] from rfl]
  simp only [List.flatMap_cons, List.flatMap_nil, partOf, meets, mx, mn, kl_eqD]
  rfl
theorem parts_ff : (partsTo (edges []) 4 ff top 1).length = 1 := by
  unfold partsTo
  rw [show List.range 1 = [0] from rfl]
  simp only [List.flatMap_cons, List.flatMap_nil, partOf, meets, mx, mn, kl_eqD]
  rfl

/-- texts in a block of their own -/
theorem strs_new (w : World) (l : List ByteArray) (n : Nat) (hn : l.length = n) : Strs (w.alloc (.cells (l.map Value.string).toArray 9)) (some ⟨w.heap.size, 0, none⟩) n n l :=
  ⟨hn, Nat.le_refl _, fun e => (by cases e), fun k x hx => ⟨w.heap.size, 0, rfl, by
    rw [Nat.zero_add, World.cell?_alloc_new]
    simp [hx]⟩⟩
theorem strs_none (w : World) : Strs w none 0 0 [] := ⟨rfl, Nat.le_refl _, fun _ => rfl, fun k x hx => by simp at hx⟩

/-- the two routes, and the frame -/
structure Kn (w : World) (R1 R6 : Nat) (wi : World) : Prop where
  low : Below w.heap.size w wi
  one : ∃ B, Are B wi R1 (edges []) 4
  six : ∃ B, Are B wi R6 (edges six) 4
theorem Kn.next {w wi wj : World} {R1 R6 : Nat} (h : Kn w R1 R6 wi) (hb : Below wi.heap.size wi wj) : Kn w R1 R6 wj :=
  ⟨h.low.trans (hb.mono h.low.size), by obtain ⟨B, h1⟩ := h.one; exact ⟨B, h1.below hb⟩, by obtain ⟨B, h1⟩ := h.six; exact ⟨B, h1.below hb⟩⟩

/-- the same, and a cell that is read later -/
structure Km (w : World) (R1 R6 c : Nat) (wi : World) : Prop where
  kn : Kn w R1 R6 wi
  cel : wi.cell? ⟨c, 0, none⟩ = some (.string ⟨#[]⟩)
theorem Km.next {w wi wj : World} {R1 R6 c : Nat} (h : Km w R1 R6 c wi) (hb : Below wi.heap.size wi wj) : Km w R1 R6 c wj :=
  ⟨h.kn.next hb, (hb.cell (p := ⟨c, 0, none⟩) (World.block_lt_of_cell? wi _ h.cel)).trans h.cel⟩

def BadRel (w : World) (cnt : Nat) (s : Value) (w1 : World) : Prop := ∃ k q, k + cnt = 5 ∧ s = .int .i64 (k : Nat) ∧ w1 = w.drewN q
def NoRel (w : World) (cnt : Nat) (s39 s40 : Value) (w1 : World) : Prop := ∃ k v, v = s39 ∧ k + cnt = 2 ∧ s40 = .int .i64 (k : Nat) ∧ NoneV v w1 ∧ Below w.heap.size w w1

set_option maxRecDepth 100000 in
set_option maxHeartbeats 8000000 in
theorem known_walk (w : World) : Calls Try.prog 9 #[] w fun e w' => e = .returned (.bool true) ∧ Below w.heap.size w w' := by
  have hlng : (lng.size : Int) ≤ 8388608 := by rw [lng_size]; decide
  have HLK : Hid (lng ++ (⟨#[107]⟩ : ByteArray) = lk) := rfl
  go_enter Try.func9, Try.ntmps9
  go_wp2_with fail
  refine (repeat_k _).mono ?_
  rintro e w1 ⟨rfl, hb⟩
  have H1 := Lib.hid hb
  clear hb
  go_wp2
  rw [HLK.out]
  obtain ⟨wc, hwc⟩ : ∃ wc, wc = ((((((w1.alloc (.cells #[.string ⟨#[]⟩] 9)).alloc (.cells #[.string lk] 9)).alloc (.cells #[.string ⟨#[98]⟩, .string ⟨#[97]⟩] 9)).alloc (.cells #[.string ⟨#[97]⟩, .string ⟨#[97]⟩] 9)).alloc (.cells #[.string ⟨#[98]⟩, .string ⟨#[97]⟩] 9)).alloc (.cells #[.slice (some ⟨w1.heap.size, 0, none⟩) 1 1, .int .i64 1, .slice (some ⟨w1.heap.size + 1, 0, none⟩) 1 1, .int .i64 1, .slice (some ⟨w1.heap.size + 1 + 1, 0, none⟩) 2 2, .int .i64 1, .slice (some ⟨w1.heap.size + 1 + 1 + 1, 0, none⟩) 2 2, .int .i64 1, .slice (some ⟨w1.heap.size + 1 + 1 + 1 + 1, 0, none⟩) 2 2, .int .i64 0] 24)) := ⟨_, rfl⟩
  have HBAD : Hid (∀ k, k < 5 → ∃ A len cap l n, wc.cell? ⟨w1.heap.size + 1 + 1 + 1 + 1 + 1, k * 2, none⟩ = some (.slice A len cap) ∧ wc.cell? ⟨w1.heap.size + 1 + 1 + 1 + 1 + 1, k * 2 + 1, none⟩ = some (.int .i64 n) ∧ Strs wc A len cap l ∧ l.length < 6 ∧ okB l = false) := by
    show ∀ k, _
    intro k hk
    rw [hwc]
    have : k = 0 ∨ k = 1 ∨ k = 2 ∨ k = 3 ∨ k = 4 := by omega
    rcases this with rfl | rfl | rfl | rfl | rfl
    · refine ⟨some ⟨w1.heap.size, 0, none⟩, 1, 1, bad0, 1, by go_simp, by go_simp, ⟨rfl, Nat.le_refl _, fun e => (by cases e), fun j x hx => ⟨w1.heap.size, 0, rfl, ?_⟩⟩, by decide, ok_bad0⟩
      rw [Nat.zero_add]
      rcases j with _ | j
      · simp [bad0] at hx; subst hx; go_simp
      · simp [bad0] at hx
    · refine ⟨some ⟨w1.heap.size + 1, 0, none⟩, 1, 1, bad1, 1, by go_simp, by go_simp, ⟨rfl, Nat.le_refl _, fun e => (by cases e), fun j x hx => ⟨w1.heap.size + 1, 0, rfl, ?_⟩⟩, by decide, ok_bad1⟩
      rw [Nat.zero_add]
      rcases j with _ | j
      · simp [bad1] at hx; subst hx; go_simp
      · simp [bad1] at hx
    · refine ⟨some ⟨w1.heap.size + 1 + 1, 0, none⟩, 2, 2, bad2, 1, by go_simp, by go_simp, ⟨rfl, Nat.le_refl _, fun e => (by cases e), fun j x hx => ⟨w1.heap.size + 1 + 1, 0, rfl, ?_⟩⟩, by decide, ok_bad2⟩
      rw [Nat.zero_add]
      rcases j with _ | _ | j
      · simp [bad2] at hx; subst hx; go_simp
      · simp [bad2] at hx; subst hx; go_simp
      · simp [bad2] at hx
    · refine ⟨some ⟨w1.heap.size + 1 + 1 + 1, 0, none⟩, 2, 2, bad3, 1, by go_simp, by go_simp, ⟨rfl, Nat.le_refl _, fun e => (by cases e), fun j x hx => ⟨w1.heap.size + 1 + 1 + 1, 0, rfl, ?_⟩⟩, by decide, ok_bad3⟩
      rw [Nat.zero_add]
      rcases j with _ | _ | j
      · simp [bad3] at hx; subst hx; go_simp
      · simp [bad3] at hx; subst hx; go_simp
      · simp [bad3] at hx
    · refine ⟨some ⟨w1.heap.size + 1 + 1 + 1 + 1, 0, none⟩, 2, 2, bad2, 0, by go_simp, by go_simp, ⟨rfl, Nat.le_refl _, fun e => (by cases e), fun j x hx => ⟨w1.heap.size + 1 + 1 + 1 + 1, 0, rfl, ?_⟩⟩, by decide, ok_bad2⟩
      rw [Nat.zero_add]
      rcases j with _ | _ | j
      · simp [bad2] at hx; subst hx; go_simp
      · simp [bad2] at hx; subst hx; go_simp
      · simp [bad2] at hx
  have HWC : Hid (Below w.heap.size w wc) := by
    have h1 := H1.out.size
    show Below _ _ _
    rw [hwc]
    exact (((((H1.out.alloc (by first | omega | (simp; omega)) _).alloc (by simp; omega) _).alloc (by simp; omega) _).alloc (by simp; omega) _).alloc (by simp; omega) _).alloc (by simp; omega) _
  rw [← hwc]
  generalize w1.heap.size + 1 + 1 + 1 + 1 + 1 = bb at *
  clear hwc H1
  go_loopg [3] 5 (fun cnt s wr => StepRel 5 wc cnt s wr)
  case atStart => exact ⟨0, rfl, rfl, Below.refl _ _⟩
  case round =>
    obtain ⟨k, hk, rfl, hbel⟩ := hrel
    have HK := Lib.hid hk
    have HBL := Lib.hid hbel
    by_cases hlt : k < 5
    · obtain ⟨A, len, cap, l, n, c0, c1, hs, h6, hb⟩ := HBAD.out k hlt
      have H2 : Hid (∀ r, Calls Try.prog 11 #[.slice A len cap, .int .i64 n] (wr.drewN r) fun e w' => e = .returned (.tuple #[.pointer none, .int .i64 2]) ∧ w' = wr.drewN r) := fun r =>
        (New_arg A len cap l n _ (hs.below (hbel.trans (below_drewN' (Below.refl _ _) r))) h6 hb).mono fun _ _ ⟨a, b⟩ => ⟨a, b.symm⟩
      have d0 : wr.cell? ⟨bb, k * 2, none⟩ = some (.slice A len cap) := (hbel.cell (p := ⟨bb, k * 2, none⟩) (World.block_lt_of_cell? wc _ c0)).trans c0
      have d1 : wr.cell? ⟨bb, k * 2 + 1, none⟩ = some (.int .i64 n) := (hbel.cell (p := ⟨bb, k * 2 + 1, none⟩) (World.block_lt_of_cell? wc _ c1)).trans c1
      have hi : (k : Int) < 5 := by omega
      have hi0 : (0 : Int) ≤ (k : Int) := by omega
      clear hs h6 hb hk hbel c0 c1
      go_wp2
      go_quiet ((go_at_call 11; exact Calls.quiet_of_same (H2.out _)))
      go_wp2
      go_roundg (4 - k)
      case measure => have := HK.out; omega
      case rel => exact ⟨k + 1, by have := HK.out; omega, by simp, below_drewN' HBL.out _⟩
    · have ek : decide ((k : Int) < 5) = false := by simp; omega
      have HWD : Hid (Below w.heap.size w wr) := HWC.out.trans (hbel.mono HWC.out.size)
      obtain ⟨wd, hwd⟩ : ∃ wd, wr = wd := ⟨_, rfl⟩
      rw [hwd] at HWD ⊢
      clear hbel HBL
      clear hwd hk hlt HBAD HWC
      go_wp2_with fail
      refine (New_limit _ 6 6 [⟨#[97]⟩, ⟨#[98]⟩, ⟨#[99]⟩, ⟨#[100]⟩, ⟨#[101]⟩, ⟨#[102]⟩] 0 _ (strs_new wd [⟨#[97]⟩, ⟨#[98]⟩, ⟨#[99]⟩, ⟨#[100]⟩, ⟨#[101]⟩, ⟨#[102]⟩] 6 rfl) (by decide)).mono ?_
      rintro e w' ⟨rfl, rfl⟩
      go_wp2_with fail
      refine (New_range none 0 0 [] 0 _ (strs_none _) (by decide) ok_one (.inl (by decide))).mono ?_
      rintro e w' ⟨rfl, rfl⟩
      go_wp2_with fail
      refine (New_range none 0 0 [] 5 _ (strs_none _) (by decide) ok_one (.inr (by decide))).mono ?_
      rintro e w' ⟨rfl, rfl⟩
      go_wp2_with fail
      refine (New_ok none 0 0 [] 4 _ (strs_none _) (by decide) ok_one (by decide) (by decide)).mono ?_
      rintro e w2 ⟨R1, rfl, hr, hb⟩
      have H2 : Hid (Below w.heap.size w w2) := (HWD.out.alloc HWD.out.size _).trans (hb.mono (by have := HWD.out.size; simp; omega))
      have HR1 := Lib.hid hr
      clear hr hb
      go_wp2_with fail
      refine (New_ok (some ⟨w2.heap.size, 0, none⟩) 5 5 six 4 _ (strs_new w2 six 5 rfl) (by decide) ok_six (by decide) (by decide)).mono ?_
      rintro e w3 ⟨R6, rfl, hr, hb⟩
      have K0 : Hid (Kn w R1 R6 w3) := ⟨(H2.out.alloc H2.out.size _).trans (hb.mono (by have := H2.out.size; simp; omega)), ⟨_, HR1.out.below (((Below.refl _ w2).alloc (Nat.le_refl _) _).trans (hb.mono (by simp)))⟩, ⟨_, hr⟩⟩
      clear hr hb HR1 H2 HWD
      have S0 := Lib.hid (Span_m (K0.out.one.choose_spec) (by decide) (m := 1) rfl (by decide) 0 (by decide))
      go_wp2_with fail
      refine S0.out.mono ?_
      rintro e w11 ⟨rfl, hb⟩
      obtain ⟨v0, hv0⟩ : ∃ v0, w11.alloc (.cells #[.string (ed (edges []) 0), .string (ed (edges []) (0 + 1))] 34) = v0 := ⟨_, rfl⟩
      have K1 : Hid (Km w R1 R6 w11.heap.size v0) := by
        show Km _ _ _ _ _
        rw [← hv0]
        exact ⟨K0.out.next (hb.trans (((Below.refl _ w11).alloc (Nat.le_refl _) _).mono hb.size)), by rw [World.cell?_alloc_new]; rfl⟩
      clear hb S0 K0
      go_wp2_with fail
      clear hv0
      generalize w11.heap.size = c0 at *
      have S : Hid (Calls Try.prog 12 #[RP R1, .string ⟨#[255]⟩] v0 fun e w' => e = .returned (.tuple #[.int .i64 0, .int .i64 0]) ∧ ∃ q, w' = v0.drewN q) := by
        have h := Shard_in (K1.out.kn.one.choose_spec) (by decide) (asc_edges ok_one) (by decide) ⟨#[255]⟩ isK_f cnt_one
        rw [shard_one] at h
        exact h

      go_wp2_with fail
      refine S.out.mono ?_
      rintro e w' ⟨rfl, q, rfl⟩
      obtain ⟨v1, hv⟩ : ∃ x, v0.drewN q = x := ⟨_, rfl⟩
      have K2 := Lib.hid (K1.out.next (below_drewN' (Below.refl _ _) q))
      rw [hv] at K2 ⊢
      clear hv S K1
      have S : Hid (Calls Try.prog 14 #[RP R1, .int .i64 1] v1 fun e w' => e = .returned (.tuple #[Sp em em, .int .i64 9]) ∧ Below v1.heap.size v1 w') := by
        exact Span_out (K2.out.kn.one.choose_spec) (by decide) (by decide) 1 (by decide)

      go_wp2_with fail
      refine S.out.mono ?_
      rintro e w' ⟨rfl, hb⟩
      obtain ⟨v2, hv⟩ : ∃ x, w'.alloc (.cells #[.string em, .string em] 34) = x := ⟨_, rfl⟩
      have K3 := Lib.hid (K2.out.next (hb.trans (((Below.refl _ w').alloc (Nat.le_refl _) (.cells #[.string em, .string em] 34)).mono hb.size)))
      go_wp2_with fail
      rw [hv] at K3
      clear hv hb S K2
      have S : Hid (Calls Try.prog 14 #[RP R1, .int .i64 (-1)] v2 fun e w' => e = .returned (.tuple #[Sp em em, .int .i64 9]) ∧ Below v2.heap.size v2 w') := by
        exact Span_out (K3.out.kn.one.choose_spec) (by decide) (by decide) (-1) (by decide)

      go_wp2_with fail
      refine S.out.mono ?_
      rintro e w' ⟨rfl, hb⟩
      obtain ⟨v3, hv⟩ : ∃ x, w'.alloc (.cells #[.string em, .string em] 34) = x := ⟨_, rfl⟩
      have K4 := Lib.hid (K3.out.next (hb.trans (((Below.refl _ w').alloc (Nat.le_refl _) (.cells #[.string em, .string em] 34)).mono hb.size)))
      go_wp2_with fail
      rw [hv] at K4
      clear hv hb S K3
      have S : Hid (Calls Try.prog 17 #[RP R1, .int .i64 (-1)] v3 fun e w' => e = .returned (.tuple #[.int .i64 0, .int .i64 9]) ∧ v3 = w') := by
        exact Node_out (K4.out.kn.one.choose_spec) (by decide) (by decide) (-1) (by decide)

      go_wp2_with fail
      refine S.out.mono ?_
      rintro e w' ⟨rfl, rfl⟩
      clear S
      have S : Hid (Calls Try.prog 17 #[RP R6, .int .i64 5] v3 fun e w' => e = .returned (.tuple #[.int .i64 2, .int .i64 0]) ∧ v3 = w') := by
        have h := Node_in (K4.out.kn.six.choose_spec) (by decide) (by decide) (by decide) 5 (by decide)
        exact h

      go_wp2_with fail
      refine S.out.mono ?_
      rintro e w' ⟨rfl, rfl⟩
      clear S
      have S : Hid (Calls Try.prog 12 #[RP R6, .string lng] v3 fun e w' => e = .returned (.tuple #[.int .i64 5, .int .i64 0]) ∧ ∃ q, w' = v3.drewN q) := by
        have h := Shard_in (K4.out.kn.six.choose_spec) (by decide) (asc_edges ok_six) (by decide) lng isK_lng cnt_six
        rw [shard_six] at h
        exact h

      go_wp2_with fail
      refine S.out.mono ?_
      rintro e w' ⟨rfl, q, rfl⟩
      obtain ⟨v4, hv⟩ : ∃ x, v3.drewN q = x := ⟨_, rfl⟩
      have K5 := Lib.hid (K4.out.next (below_drewN' (Below.refl _ _) q))
      rw [hv] at K5 ⊢
      clear hv S K4
      have S : Hid (Calls Try.prog 12 #[RP R6, .string lk] v4 fun e w' => e = .returned (.tuple #[.int .i64 0, .int .i64 2]) ∧ v4 = w') := by
        exact Shard_out (K5.out.kn.six.choose_spec) (by decide) lk isK_lk

      go_wp2_with fail
      rw [HLK.out]
      refine S.out.mono ?_
      rintro e w' ⟨rfl, rfl⟩
      clear S
      have S : Hid (Calls Try.prog 12 #[RP R6, .string ⟨#[]⟩] v4 fun e w' => e = .returned (.tuple #[.int .i64 0, .int .i64 2]) ∧ v4 = w') := by
        exact Shard_out (K5.out.kn.six.choose_spec) (by decide) _ isK_no

      go_wp2_with fail
      refine S.out.mono ?_
      rintro e w' ⟨rfl, rfl⟩
      clear S
      have S : Hid (Calls Try.prog 19 #[.string ⟨#[255]⟩, .int .i64 33] v4 fun e w' => e = .returned (.string top) ∧ Below v4.heap.size v4 w') := by
        exact repeat_top _

      go_wp2_with fail
      refine S.out.mono ?_
      rintro e v5 ⟨rfl, hb⟩
      have K6 := Lib.hid (K5.out.next hb)
      clear hb S K5
      have S : Hid (Calls Try.prog 18 #[RP R6, Sp ⟨#[]⟩ top] v5 fun e w' => ∃ u, e = .returned (.tuple #[u, .int .i64 0]) ∧ Own v5.heap.size w' u (partsTo (edges six) 4 ⟨#[]⟩ top 6) ∧ Below v5.heap.size v5 w') := by
        exact Parts_ok (K6.out.kn.six.choose_spec) (by decide) (by decide) (by decide) ⟨#[]⟩ top chk_all

      go_wp2_with fail
      refine S.out.mono ?_
      rintro e v6 ⟨u, rfl, hown, hb⟩
      have K7 := Lib.hid (K6.out.next hb)
      obtain ⟨A7, c7, hu, _, _⟩ := hown.cells
      rw [parts_six] at hu
      subst hu
      clear hown hb S K6
      have S : Hid (Calls Try.prog 19 #[.string ⟨#[255]⟩, .int .i64 32] v6 fun e w' => e = .returned (.string ff) ∧ Below v6.heap.size v6 w') := by
        exact repeat_ff _

      go_wp2_with fail
      refine S.out.mono ?_
      rintro e v7 ⟨rfl, hb⟩
      have K8 := Lib.hid (K7.out.next hb)
      clear hb S K7
      have S : Hid (Calls Try.prog 19 #[.string ⟨#[255]⟩, .int .i64 33] v7 fun e w' => e = .returned (.string top) ∧ Below v7.heap.size v7 w') := by
        exact repeat_top _

      go_wp2_with fail
      refine S.out.mono ?_
      rintro e v8 ⟨rfl, hb⟩
      have K9 := Lib.hid (K8.out.next hb)
      clear hb S K8
      have S : Hid (Calls Try.prog 18 #[RP R1, Sp ff top] v8 fun e w' => ∃ u, e = .returned (.tuple #[u, .int .i64 0]) ∧ Own v8.heap.size w' u (partsTo (edges []) 4 ff top 1) ∧ Below v8.heap.size v8 w') := by
        exact Parts_ok (K9.out.kn.one.choose_spec) (by decide) (by decide) (by decide) ff top chk_ff

      go_wp2_with fail
      refine S.out.mono ?_
      rintro e v9 ⟨u, rfl, hown, hb⟩
      have K10 := Lib.hid (K9.out.next hb)
      obtain ⟨A10, c10, hu, _, _⟩ := hown.cells
      rw [parts_ff] at hu
      subst hu
      clear hown hb S K9
      have hcel := K10.out.cel
      have HL := Lib.hid K10.out.kn.low
      clear K10
      go_wp2
      clear hcel
      go_loopg [39, 40] 2 (fun cnt s39 s40 wr => NoRel v9 cnt s39 s40 wr)
      case atStart => exact ⟨0, _, rfl, rfl, rfl, .inl rfl, Below.refl _ _⟩
      case round =>
        obtain ⟨k, v, rfl, hk, rfl, hv, hbel⟩ := hrel
        have HKK := Lib.hid hk
        have HBL := Lib.hid hbel
        have HV := Lib.hid hv
        by_cases hlt : k < 2
        · clear hk hv hbel
          go_wp2_with fail
          refine (Shard_none HV.out _).mono ?_
          rintro e w' ⟨rfl, rfl⟩
          go_wp2_with fail
          refine (Node_none HV.out _).mono ?_
          rintro e w' ⟨rfl, rfl⟩
          go_wp2_with fail
          refine (Span_none HV.out _).mono ?_
          rintro e x1 ⟨rfl, hb⟩
          have hb2 := hb.trans (((Below.refl _ x1).alloc (Nat.le_refl _) (.cells #[.string em, .string em] 34)).mono hb.size)
          have B1 := Lib.hid (HBL.out.trans (hb2.mono HBL.out.size))
          have V1 := Lib.hid (HV.out.later hb2)
          clear hb hb2
          go_wp2_with fail
          refine (Parts_none V1.out _ _).mono ?_
          rintro e x2 ⟨rfl, hb⟩
          have B2 := Lib.hid (B1.out.trans (hb.mono B1.out.size))
          have V2 := Lib.hid (V1.out.later hb)
          clear hb
          go_wp2_with fail
          refine (Shards_none V2.out).mono ?_
          rintro e w' ⟨rfl, rfl⟩
          go_wp2
          go_roundg (1 - k)
          case measure => have := HKK.out; omega
          case rel => exact ⟨k + 1, _, rfl, by have := HKK.out; omega, by simp, .inr ⟨_, rfl, by rw [World.cell?_alloc_new]; rfl⟩, B2.out.alloc B2.out.size _⟩
        · have ek : decide ((k : Int) < 2) = false := by simp; omega
          have HF := Lib.hid (HL.out.trans (hbel.mono HL.out.size))
          clear hk hv hbel hlt
          go_wp2_with fail
          refine (works_any _).mono ?_
          rintro e x3 ⟨rfl, hb⟩
          have HF2 := Lib.hid (HF.out.trans (hb.mono HF.out.size))
          clear hb
          go_wp2
          go_ret
          exact ⟨rfl, HF2.out⟩

end Rt
end Go.Proofs.Ytpkiiimbichooaa
