/-
  Walk: the law SkipBack.
-/
import Derived.Test.YtphfedkfbehigaaMadeFacts
import Derived.Deep.QuietTactic
import Derived.BigQuiet
namespace Go.Proofs.Ytphfedkfbehigaa
open Go.RowKit Sk
namespace St

theorem drop_put_new {l : List Row} (hs : Srt Rf.It.k l) {key : ByteArray} (h : seek Rf.It.k key l = none) (v : Int) (s : Nat) : dropR key (putR key v s l) = l := by
  have hp := seek_putR_same hs key v s
  obtain ⟨r, hr, _⟩ := seek_some Rf.It.k hp
  rw [dropR_some hp hr]
  have e := putR_none (v := v) (s := s) h
  have h2 := lo_eq Rf.It.k (key := key) (pre := lo Rf.It.k key l) (post := ⟨key, v, s⟩ :: hi Rf.It.k key l) (lo_below Rf.It.k) (by
    intro z hz
    rcases List.mem_cons.1 hz with rfl | hz
    · exact kl_irrefl _
    · exact hi_above Rf.It.k hs z hz)
  rw [← e] at h2
  rw [h2.1]
  have h3 := h2.2
  rw [hr] at h3
  injection h3 with _ h3
  rw [h3]
  exact lo_hi _ _ _
theorem drop_put_length {l : List Row} (hs : Srt Rf.It.k l) {key : ByteArray} (h : (seek Rf.It.k key l).isSome = true) (v : Int) (s : Nat) : (dropR key (putR key v s l)).length + 1 = l.length := by
  have h1 := length_dropR (l := putR key v s l) key
  rw [seek_putR_same hs] at h1
  have h2 := length_putR (l := l) key v s
  rw [if_pos h] at h2
  simp at h1
  omega
theorem drop_twice {l : List Row} (hs : Srt Rf.It.k l) (key : ByteArray) : dropR key (dropR key l) = dropR key l := dropR_none (seek_dropR_same hs key)

theorem Mp.len_run {w : World} {b n : Nat} {rows : List Row} (h : Mp w b n rows) (ty : TypeId) : (Builtin.len_ #[42] ty #[.map (some b)]).run Try.prog w = .ok (.int .i64 (rows.length : Nat)) w := by
  obtain ⟨D, h1, h2⟩ := h
  rw [h1.len Try.underlying42 ty, h2.size]

theorem put_one (B L : Nat) (rows : List Row) (key : ByteArray) (v s : Int) (w : World) (h : Sk B w L rows) (hB : B ≤ w.heap.size) (hlen : rows.length ≤ 999999) :
    Calls Try.prog 30 #[.pointer (some ⟨L, 0, none⟩), .string key, .int .i64 v, .int .i64 (1 + s % 16)] w fun e w' => e = .returned (.bool true) ∧
      Sk B w' L (putR key v (1 + s % 16).toNat rows) ∧ Turns (Of w [57, 60] B) w w' := by
  have := Put_st B L rows key v (1 + s % 16) w h hB hlen
  rw [okS_one, if_pos rfl] at this
  exact this

set_option maxRecDepth 100000 in
set_option maxHeartbeats 2000000 in
theorem back_walk (A : Option Addr) (len cap : Nat) (ds : List Deed) (key : ByteArray) (n : Int) (w : World) (hlen : ds.length = len) (hds : Deeds w A ds) (hf : ∀ d ∈ ds, Deed.Fine d) (hkey : key.size ≤ maxLen) :
    Calls Try.prog 9 #[.slice A len cap, .string key, .int .i64 n] w fun e w' => e = .returned (.bool true) ∧ Below w.heap.size w w' := by
  obtain ⟨B, hBw⟩ : ∃ B, w.heap.size = B := ⟨_, rfl⟩
  have HBW := Lib.hid hBw
  have HDS := Lib.hid (And.intro hlen (And.intro hds hf))
  clear hBw hds hlen hf
  have hwr : IntKind.i64.wrap (1 + n % 16) = 1 + n % 16 := by
    have h1 : 0 ≤ n % 16 := Int.emod_nonneg _ (by omega)
    have h2 : n % 16 < 16 := Int.emod_lt_of_pos _ (by omega)
    exact IntWalk.i64_in _ (by omega)
  go_enter Try.func9, Try.ntmps9
  go_wp2_with fail
  refine (Wk.works_any _).mono ?_
  rintro e w1 ⟨rfl, hb⟩
  have H1 := Lib.hid (show Below B w w1 from HBW.out ▸ hb)
  clear hb
  go_wp2_with fail
  refine (made_pair A len cap ds B w w1 HDS.out.1 HDS.out.2.1 HDS.out.2.2 HBW.out H1.out).mono ?_
  rintro e w2 ⟨L, b, rfl, hp⟩
  have hrl := mrows_length ds 80
  have HS := Lib.hid (srt_mrows ds 80)
  have hall := stepKeys_all fun x hx => (lv_rows hp.sk x hx).1
  generalize mrows ds 80 = rows at *
  have H2 := Lib.hid hp
  have HA := Lib.hid hall
  clear hp hall H1
  go_wp2_with (at_lookup; refine wpList_look_mp _ rfl _ _ rfl b 80 rows rfl H2.out.mp key hkey rfl ?_)
  refine (Step_st B L rows _ 1 H2.out.sk (by omega)).mono ?_
  rintro e w3 ⟨u, rfl, hu, hb⟩
  rw [HA.out] at hu
  have hp3 := H2.out.below (HBW.out ▸ Nat.le_refl _) hb
  have hk3 := Ks.of_owns hu
  obtain ⟨A3, c3, hu3, _⟩ := hk3.open
  have H3 := Lib.hid (And.intro hp3 hk3)
  have z3 : Hid (B ≤ w3.heap.size) := hp3.size HBW.out
  clear hp3 hk3 hb hu
  rw [List.length_map] at hu3
  subst hu3
  go_wp2_with fail
  refine (Br.Bring_any _ _ _ (by omega) (by omega)).mono ?_
  rintro e w' ⟨rfl, rfl⟩
  go_wp2_with fail
  refine (put_one B L rows key 7 n _ H3.out.1.sk z3.out (by omega)).mono ?_
  rintro e w4 ⟨rfl, hs4, ht4⟩
  have hb4 := H3.out.1.low.trans (below_of ht4 z3.out)
  have H4 := Lib.hid (And.intro hb4 (And.intro hs4 (And.intro (H3.out.1.mp.turned ht4) (H3.out.2.turned ht4 (by decide)))))
  have z4 : Hid (B ≤ w4.heap.size) := Nat.le_trans z3.out ht4.size
  have q1 := seek_putR_same HS.out key 7 (1 + n % 16).toNat
  have q2 := srt_putR HS.out key 7 (1 + n % 16).toNat
  have q3 := drop_put_new (v := 7) (s := (1 + n % 16).toNat) HS.out (key := key)
  have q4 := drop_put_length (v := 7) (s := (1 + n % 16).toNat) HS.out (key := key)
  have q6 := putR_length key 7 (1 + n % 16).toNat rows
  have qV : getV key (putR key 7 (1 + n % 16).toNat rows) = 7 := by unfold getV; rw [q1]; rfl
  have qB : getB key (putR key 7 (1 + n % 16).toNat rows) = true := by unfold getB; rw [q1]; rfl
  clear hs4 ht4 hb4 H3 z3 H2
  generalize putR key 7 (1 + n % 16).toNat rows = rows1 at *
  have q5 := seek_dropR_same q2 key
  have q7 := dropR_length key rows1
  have q8 := drop_twice q2 key
  have HQ := Lib.hid (And.intro q3 (And.intro q4 (And.intro q5 (And.intro qV (And.intro qB q8)))))
  have q9 : (seek Rf.It.k key rows1).isSome = true := by rw [q1]; rfl
  have HQ9 := Lib.hid q9
  clear q1 q2 q3 q4 q5 q8 qV qB q9
  go_wp2_with fail
  refine (Get_st B L rows1 _ key H4.out.2.1).mono ?_
  rintro e w5 ⟨rfl, hb⟩
  rw [HQ.out.2.2.2.1, HQ.out.2.2.2.2.1]
  have H5 := Lib.hid (And.intro (H4.out.1.trans (hb.mono z4.out)) (And.intro (H4.out.2.1.below hb) (And.intro (H4.out.2.2.1.below hb) (H4.out.2.2.2.below hb))))
  have z5 : Hid (B ≤ w5.heap.size) := Nat.le_trans z4.out hb.size
  clear hb H4 z4
  go_wp2_with fail
  refine (Drop_st B L rows1 key _ H5.out.2.1 (by omega)).mono ?_
  rintro e w6 ⟨rfl, hs6, ht6⟩
  rw [HQ9.out]
  have H6 := Lib.hid (And.intro (H5.out.1.trans (below_of ht6 z5.out)) (And.intro hs6 (And.intro (H5.out.2.2.1.turned ht6) (H5.out.2.2.2.turned ht6 (by decide)))))
  have z6 : Hid (B ≤ w6.heap.size) := Nat.le_trans z5.out ht6.size
  clear hs6 ht6 H5 z5
  generalize dropR key rows1 = rows2 at *
  have hn2 : (seek Rf.It.k key rows2).isSome = false := by rw [HQ.out.2.2.1]; rfl
  have HN2 := Lib.hid hn2
  clear hn2
  go_wp2_with fail
  refine (Drop_st B L rows2 key _ H6.out.2.1 (by omega)).mono ?_
  rintro e w7 ⟨rfl, hs7, ht7⟩
  rw [HN2.out]
  rw [HQ.out.2.2.2.2.2] at hs7
  have H7 := Lib.hid (And.intro (H6.out.1.trans (below_of ht7 z6.out)) (And.intro hs7 (And.intro (H6.out.2.2.1.turned ht7) (H6.out.2.2.2.turned ht7 (by decide)))))
  have z7 : Hid (B ≤ w7.heap.size) := Nat.le_trans z6.out ht7.size
  clear hs7 ht7 H6 z6
  go_wp2_with fail
  refine (Get_st B L rows2 _ key H7.out.2.1).mono ?_
  rintro e w8 ⟨rfl, hb⟩
  have hB2 : getB key rows2 = false := HN2.out
  rw [hB2]
  have H8 := Lib.hid (And.intro (H7.out.1.trans (hb.mono z7.out)) (And.intro (H7.out.2.1.below hb) (And.intro (H7.out.2.2.1.below hb) (H7.out.2.2.2.below hb))))
  have z8 : Hid (B ≤ w8.heap.size) := Nat.le_trans z7.out hb.size
  clear hb H7 z7 hB2
  cases hwas : getB key rows with
  | true =>
    have hl := HQ.out.2.1 hwas
    have hw1 : IntKind.i64.wrap ((rows.length : Int) - 1) = (rows2.length : Int) := by rw [IntWalk.i64_in _ (by omega)]; omega
    have hw2 : ((rows2.length : Int) == (rows.length : Int) - 1) = true := by simp; omega
    have hw3 : (rows2.length : Int) = (rows.length : Int) - 1 := by omega
    go_wp2_with fail
    refine (Len_st B L rows2 _ H8.out.2.1).mono ?_
    rintro e w' ⟨rfl, rfl⟩
    have HL := Lib.hid H8.out.1
    have hrun := H8.out.2.2.1.len_run
    go_wp2
    go_ret
    exact ⟨rfl, by rw [HBW.out]; exact HL.out⟩
  | false =>
    have hl := HQ.out.1 (by
      have h : (seek Rf.It.k key rows).isSome = false := hwas
      cases e : seek Rf.It.k key rows with
      | none => rfl
      | some x => rw [e] at h; cases h)
    subst hl
    go_wp2_with fail
    refine (Step_st B L rows2 _ 1 H8.out.2.1 (by omega)).mono ?_
    rintro e w9 ⟨u, rfl, hu, hb⟩
    rw [HA.out] at hu
    have hk9 := Ks.of_owns hu
    have hk8 := H8.out.2.2.2.below hb
    have HL := Lib.hid (H8.out.1.trans (hb.mono z8.out))
    have z9 : Hid (B ≤ w9.heap.size) := Nat.le_trans z8.out hb.size
    have HK := Lib.hid (And.intro hk8.is hk9.is)
    clear hu hk9 hk8 hb
    go_wp2_with fail
    refine (Sm.Same_yes _ _ _ _ HK.out.1 HK.out.2 (by rw [List.length_map]; omega)).mono ?_
    rintro e w' ⟨rfl, q, rfl⟩
    go_wp2
    go_ret
    exact ⟨rfl, by rw [HBW.out]; exact HL.out.trans (below_drewN' (Below.refl _ _) q)⟩

end St
end Go.Proofs.Ytphfedkfbehigaa
