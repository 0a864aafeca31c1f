/-
  Walk: 'Put' of a key that a list of string has not.
-/
import Derived.Test.YtoglklldclgcbaaSkSPut
namespace Go.Proofs.Ytoglklldclgcbaa
open Go.RowKit Sk
namespace SkS

def PutRel (w1 : World) (L : Nat) (H N : Nd) (pre post : List Nd) (cnt : Nat) (s40 : Value) (wr : World) : Prop :=
  ∃ i, i + cnt = 16 ∧ i ≤ N.i.s ∧ s40 = .int .i64 (i : Int) ∧ Blk wr L 78 #[.pointer (some ⟨H.b, 0, none⟩), .int .i64 (pre ++ post).length] ∧
    Mem 76 wr ((H :: pre) ++ N :: post) (fun b j => if j < i then way ((H :: pre) ++ N :: post) b j else way ((H :: pre) ++ post) b j) ∧ Turns (· ∈ N.b :: blocks (H :: pre)) w1 wr

theorem PutRel_drew {w1 : World} {L : Nat} {H N : Nd} {pre post : List Nd} {cnt : Nat} {s40 : Value} {wr : World} (h : PutRel w1 L H N pre post cnt s40 wr) : PutRel w1 L H N pre post cnt s40 wr.drew := by
  obtain ⟨i, h1, h2, h3, h4, h5, h6⟩ := h
  exact ⟨i, h1, h2, h3, h4, h5, h6.drew⟩

theorem put_done {w3 wr : World} {L : Nat} {H N : Nd} {pre post : List Nd} {n : Nat} (hI3 : Is w3 L H (pre ++ post)) (hhdr : Blk wr L 78 #[.pointer (some ⟨H.b, 0, none⟩), .int .i64 n])
    (hn : n = (pre ++ post).length) (hmem : Mem 76 wr ((H :: pre) ++ N :: post) (fun b j => if j < N.i.s then way ((H :: pre) ++ N :: post) b j else way ((H :: pre) ++ post) b j))
    (hnd : (blocks ((H :: pre) ++ N :: post)).Nodup) (hpre : ∀ y ∈ pre, kl y.i.k N.i.k = true) (hpost : ∀ y ∈ post, kl N.i.k y.i.k = true) (hs1 : 1 ≤ N.i.s) (hs2 : N.i.s ≤ 16) :
    Is (wr.setCell ⟨L, 1, none⟩ (.int .i64 ((n : Int) + 1))) L H (pre ++ N :: post) := by
  have hLn : L ∉ blocks ((H :: pre) ++ N :: post) := by
    intro hm
    obtain ⟨x, hx, he⟩ := List.mem_map.1 hm
    have h1 := hmem x hx
    rw [he] at h1
    unfold Blk at h1 hhdr
    rw [hhdr] at h1
    injection h1 with h1
    injection h1 with _ h1
    exact absurd h1 (by decide)
  refine ⟨?_, ?_, by simpa using hnd, ?_, ?_, hI3.hs, hI3.hk⟩
  · have := hhdr.set_ 1 (.int .i64 ((n : Int) + 1))
    have e : (((pre ++ N :: post).length : Nat) : Int) = (n : Int) + 1 := by rw [hn]; simp; omega
    rw [e]
    simpa using this
  · have := (Mem.linked hmem hnd).far (p := ⟨L, 1, none⟩) hLn (.int .i64 ((n : Int) + 1))
    simpa using this
  · have h := hI3.srt
    rw [List.pairwise_append] at h ⊢
    refine ⟨h.1, List.pairwise_cons.2 ⟨hpost, h.2.1⟩, fun x hx y hy => ?_⟩
    rcases List.mem_cons.1 hy with rfl | hy
    · exact hpre x hx
    · exact h.2.2 x hx y hy
  · intro x hx
    rcases List.mem_append.1 hx with hx | hx
    · exact hI3.lv x (List.mem_append_left _ hx)
    · rcases List.mem_cons.1 hx with rfl | hx
      · exact ⟨hs1, hs2⟩
      · exact hI3.lv x (List.mem_append_right _ hx)

/-- behind a key that is not there all is above it -/
theorem above_none {key : ByteArray} {l pre post : List Nd} (hl : l = pre ++ post) (hs : Srt ndk l) (hlook : seek ndk key l = none) (hpre : ∀ y ∈ pre, kl y.i.k key = true) (hpost : ∀ y ∈ post, kl y.i.k key = false) :
    ∀ y ∈ post, kl key y.i.k = true := by
  have hh : hi ndk key l = post := by rw [hl]; exact (lo_eq ndk hpre hpost).2
  cases post with
  | nil => intro y hy; cases hy
  | cons z r =>
    have hz : kl key z.i.k = true := by
      cases e : kl key z.i.k with
      | true => rfl
      | false => exact absurd (kl_total (hpost z (by simp)) e) (seek_none ndk hlook z r hh)
    intro y hy
    rcases List.mem_cons.1 hy with rfl | hy
    · exact hz
    · have : Srt ndk (z :: r) := by
        unfold Srt at hs ⊢
        rw [hl] at hs
        exact (List.pairwise_append.1 hs).2.1
      exact kl_trans hz ((List.pairwise_cons.1 this).1 y hy)

set_option maxHeartbeats 1000000 in
theorem Put_new (L : Nat) (H : Nd) (l pre post : List Nd) (key : ByteArray) (vs : ByteArray) (s : Nat) (w : World) (h : Is w L H l) (hs1 : 1 ≤ s) (hs2 : s ≤ 16) (hl : l = pre ++ post)
    (hlook : seek ndk key l = none) (hpre : ∀ y ∈ pre, kl y.i.k key = true) (hpost : ∀ y ∈ post, kl y.i.k key = false) (hlen : l.length ≤ 1000000) :
    Calls Try.prog 37 #[.pointer (some ⟨L, 0, none⟩), .string key, .string vs, .int .i64 s] w fun e w' => e = .returned (.bool true) ∧
      ∃ b, w.heap.size ≤ b ∧ Is w' L H (pre ++ ⟨b, ⟨key, .string vs, s⟩⟩ :: post) ∧ Turns (· ∈ own L H pre) w w' := by
  have hc := Is_cell h
  have HC := Lib.hid (find_none L key H l w h hlook)
  have HI := Lib.hid h
  have HLE := Lib.hid hl
  have HLEN := Lib.hid hlen
  have b1 : ¬ ((s : Int) < 1) := by omega
  have b2 : ¬ (16 < (s : Int)) := by omega
  have hpost' := above_none hl h.srt hlook hpre hpost
  have HPO := Lib.hid hpost'
  clear h hlook hl hlen hpost'
  go_enter Try.func37, Try.ntmps37
  go_wp2_with fail
  refine (none_no _ _ _ hc).mono ?_
  rintro e w1 ⟨rfl, rfl⟩
  go_wp2_with fail
  refine HC.out.mono ?_
  rintro e w1 ⟨rfl, hb⟩
  have hI1 : Is w1 L H (pre ++ post) := by rw [← HLE.out]; exact HI.out.keep (S := fun _ => False) (Turns.of_below hb) (fun _ _ h => h)
  have HB := Lib.hid hb
  clear hb
  have HI1 := Lib.hid hI1
  clear hI1
  go_wp2_with fail
  refine (ahead_is L key H pre post _ (HI1.out.keep (S := fun _ => False) ((Turns.refl _ w1).alloc _) (fun _ _ h => h)) hpre hpost).mono ?_
  rintro e w3 ⟨rfl, hb3⟩
  have hI3 : Is w3 L H (pre ++ post) := (HI1.out.keep (S := fun _ => False) ((Turns.refl _ w1).alloc _) (fun _ _ h => h)).keep (S := fun _ => False) (Turns.of_below hb3) (fun _ _ h => h)
  obtain ⟨N, hN⟩ : ∃ N : Nd, N = ⟨w1.heap.size, ⟨key, .string vs, s⟩⟩ := ⟨_, rfl⟩
  have hNb : w1.heap.size = N.b := by rw [hN]
  have hNs : N.i.s = s := by rw [hN]
  have HNk := Lib.hid (show N.i.k = key by rw [hN])
  have hNout : N.b ∉ blocks (H :: (pre ++ post)) := by
    rw [← hNb]
    intro hm
    have := HI1.out.own_lt (k := w1.heap.size) (by unfold own; exact List.mem_cons_of_mem _ hm)
    omega
  have hndN : (blocks ((H :: pre) ++ N :: post)).Nodup := by
    have e : blocks ((H :: pre) ++ N :: post) = blocks (H :: pre) ++ N.b :: blocks post := by simp
    rw [e]
    have h1 := hI3.nd
    have e2 : blocks (H :: (pre ++ post)) = blocks (H :: pre) ++ blocks post := by simp
    rw [e2] at h1 hNout
    exact (List.perm_middle.nodup_iff).2 (List.nodup_cons.2 ⟨hNout, h1⟩)
  have hmem0 : Mem 76 w3 ((H :: pre) ++ N :: post) (fun b j => if j < 0 then way ((H :: pre) ++ N :: post) b j else way ((H :: pre) ++ post) b j) := by
    intro x hx
    have hx' : x = N ∨ x ∈ H :: (pre ++ post) := by
      simp only [List.cons_append, List.mem_cons, List.mem_append] at hx ⊢
      rcases hx with hx | hx | hx | hx
      · exact .inr (.inl hx)
      · exact .inr (.inr (.inl hx))
      · exact .inl hx
      · exact .inr (.inr (.inr hx))
    rcases hx' with rfl | hx'
    · have hblk := Blk.below (Blk.new w1 76 (nodeCells x.i fun _ => none)) (B := (w1.alloc (.cells (nodeCells x.i fun _ => none) 76)).heap.size) (w' := w3) (by
        have := hb3
        rw [hN]
        exact this) (by simp)
      rw [hNb] at hblk
      rw [node_congr x.i (g := fun _ => none) (fun j _ => by
        show (if j < 0 then _ else _) = _
        rw [if_neg (Nat.not_lt_zero j)]
        exact way_out (by simpa using hNout) j)]
      exact hblk
    · have := hI3.mem x hx'
      simpa using this
  have hrel0 : PutRel w3 L H N pre post 16 (.int .i64 0) w3 := ⟨0, rfl, Nat.zero_le _, rfl, hI3.hdr, hmem0, Turns.refl _ _⟩
  have HR0 := Lib.hid hrel0
  have HND := Lib.hid hndN
  have HB3 := Lib.hid hb3
  have HNs := Lib.hid hNs
  have HN := Lib.hid hN
  have HI3 := Lib.hid hI3
  clear hrel0 hndN hb3 hNs hN hmem0 hNout hI3
  have HNb := Lib.hid hNb
  rw [hNb]
  clear hNb
  generalize hA : (Sk.ways fun j => (lastOn j (H :: pre)).map Nd.b).toArray = A
  have HA := Lib.hid hA
  clear hA
  go_wp2_with fail
  go_loopg [40] 16 (fun cnt s40 wr => PutRel w3 L H N pre post cnt s40 wr)
  case atStart => exact HR0.out
  case round =>
    obtain ⟨i, hi16, his, rfl, hhdr, hmem, hturns⟩ := hrel
    rw [HNs.out] at his
    have hixA : i < 16 → ∃ a, lastOn i (H :: pre) = some a ∧ ∀ w, (Instr.index 74 (.agg A) (.int .i64 i)).run Try.prog w = .ok (.pointer (some ⟨a.b, 0, none⟩)) w := fun hilt => by
      obtain ⟨a, ha⟩ := lastOn_head (j := i) H (by rw [HI3.out.hs]; exact hilt) pre
      refine ⟨a, ha, fun w => ?_⟩
      have := run_index (fun j => (lastOn j (H :: pre)).map Nd.b) i hilt w
      simp only [ha, Option.map_some, ptr_some] at this
      rw [← HA.out]
      exact this
    by_cases hie : i = s
    · subst hie
      obtain ⟨n, hn⟩ : ∃ n, n = (pre ++ post).length := ⟨_, rfl⟩
      have hnb : n ≤ 1000000 := by rw [hn, ← HLE.out]; exact HLEN.out
      rw [← hn] at hhdr
      have hdone := put_done (n := n) HI3.out hhdr hn (by rw [HNs.out]; exact hmem) HND.out (by rw [HNk.out]; exact hpre) (by rw [HNk.out]; exact HPO.out) (by rw [HNs.out]; exact hs1) (by rw [HNs.out]; exact hs2)
      rw [HN.out] at hdone
      have hturn : Turns (· ∈ own L H pre) w (wr.setCell ⟨L, 1, none⟩ (.int .i64 ((n : Int) + 1))) := by
        have h1 : Turns (· ∈ own L H pre) w w3 := (Turns.of_below HB.out).trans (S' := fun _ => False) (((Turns.refl _ w1).alloc _).trans (Turns.of_below HB3.out) (fun _ _ h => h)) (fun _ _ h => h.elim)
        have h2 := h1.trans hturns (fun k hk hm => by
          rcases List.mem_cons.1 hm with rfl | hm
          · have := HNb.out
            have := HB.out.size
            omega
          · unfold own; exact List.mem_cons_of_mem _ hm)
        exact h2.setCell (p := ⟨L, 1, none⟩) (fun _ => by simp [own]) _
      have HD := Lib.hid (And.intro hdone hturn)
      have c1 : wr.cell? ⟨L, 1, none⟩ = some (.int .i64 n) := hhdr.cell 1
      have f1 : wr.frozen? ⟨L, 1, none⟩ = false := hhdr.free 1
      clear hhdr hmem hdone hn hpre hpost hturns hturn
      have e1 : ((i : Int) == (i : Int)) = true := by simp
      by_cases hlt : i < 16
      · obtain ⟨a, ha, hix⟩ := hixA hlt
        clear hixA ha
        go_wp2
        go_ret
        exact ⟨rfl, w1.heap.size, HB.out.size, HD.out.1, HD.out.2⟩
      · clear hixA
        go_wp2
        go_ret
        exact ⟨rfl, w1.heap.size, HB.out.size, HD.out.1, HD.out.2⟩
    · have hilt : i < 16 := by omega
      obtain ⟨a, ha, hix⟩ := hixA hilt
      have ham : a ∈ (H :: pre) ++ N :: post := List.mem_append_left _ (lastOn_mem ha)
      have hNm : N ∈ (H :: pre) ++ N :: post := by simp
      have c1 : wr.cell? ⟨a.b, 3 + i, none⟩ = some (ptr (firstOn i post)) := by
        have := hmem.way ham hilt
        rw [if_neg (Nat.lt_irrefl i), way_last (by simpa using HI3.out.nd) ha] at this
        exact this
      have c2 : wr.cell? ⟨N.b, 3 + i, none⟩ = some (ptr (way (H :: pre ++ post) N.b i)) := by
        have := hmem.way hNm hilt
        rw [if_neg (Nat.lt_irrefl i)] at this
        exact this
      have f1 := hmem.free ham (3 + i)
      have f2 := hmem.free hNm (3 + i)
      have hne : a.b ≠ N.b := by
        intro e
        have := HND.out
        rw [blocks_append, List.nodup_append] at this
        exact this.2.2 _ (mem_blocks (lastOn_mem ha)) _ (by simp) e
      have hlink := hmem.link HND.out ha (by rw [HNs.out]; omega)
      obtain ⟨q, hq⟩ : ∃ q, q = firstOn i post := ⟨_, rfl⟩
      have HQ := Lib.hid hq
      rw [← hq] at c1 hlink
      have hnext : PutRel w3 L H N pre post (15 - i) (.int .i64 ((i : Int) + 1)) ((wr.setCell ⟨N.b, 3 + i, none⟩ (.pointer (q.map fun b => ⟨b, 0, none⟩))).setCell ⟨a.b, 3 + i, none⟩ (.pointer (some ⟨N.b, 0, none⟩))) := by
        refine ⟨i + 1, by omega, by rw [HNs.out]; omega, by simp, ?_, hlink, ?_⟩
        · have hL : ∀ x ∈ (H :: pre) ++ N :: post, L ≠ x.b := by
            intro x hx e
            have h1 := hmem x hx
            rw [← e] at h1
            unfold Blk at h1 hhdr
            rw [hhdr] at h1
            injection h1 with h1
            injection h1 with _ h1
            exact absurd h1 (by decide)
          exact (hhdr.far (p := ⟨N.b, 3 + i, none⟩) (hL N hNm) _).far (p := ⟨a.b, 3 + i, none⟩) (hL a ham) _
        · exact (hturns.setCell (p := ⟨N.b, 3 + i, none⟩) (fun _ => by simp) _).setCell (p := ⟨a.b, 3 + i, none⟩) (fun _ => List.mem_cons_of_mem _ (mem_blocks (lastOn_mem ha))) _
      have HX := Lib.hid hnext
      have d1 : wr.cell? ⟨a.b, 3 + i, none⟩ = some (.pointer (q.map fun b => ⟨b, 0, none⟩)) := c1
      obtain ⟨q2, hq2⟩ : ∃ q2, q2 = way (H :: pre ++ post) N.b i := ⟨_, rfl⟩
      rw [← hq2] at c2
      have d2 : wr.cell? ⟨N.b, 3 + i, none⟩ = some (.pointer (q2.map fun b => ⟨b, 0, none⟩)) := c2
      have e1 : ((i : Int) == (s : Int)) = false := by simp; omega
      have HI16 := Lib.hid hi16
      clear hixA ha ham hNm c1 c2 hmem hlink hq hq2 hnext hhdr hpre hpost hturns his hie
      go_wp2
      go_region
      all_goals
        go_wp2
        go_roundg (15 - i)
        case measure => have := HI16.out; omega
        case rel => exact PutRel_drew HX.out

end SkS
end Go.Proofs.Ytoglklldclgcbaa
