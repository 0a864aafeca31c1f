/-
  Walk: 'Last' of a list of string.
-/
import Derived.Test.YtoglklldclgcbaaSkSReads
import Derived.Deep.QuietTactic
import Derived.BigQuiet
namespace Go.Proofs.Ytoglklldclgcbaa
open Go.RowKit Sk
namespace SkS

theorem node_size : (Try.prog.info? 76).map (·.size) = some (18 + 1) := by kernel_rfl

def LastOut (w : World) (H : Nd) (pre : List Nd) (k : Nat) (s6 s7 : Value) (wr : World) : Prop :=
  ∃ xs a ys, k ≤ 16 ∧ s7 = .int .i64 ((k : Int) - 1) ∧ H :: pre = xs ++ a :: ys ∧ k ≤ a.i.s ∧ s6 = .pointer (some ⟨a.b, 0, none⟩) ∧ wr = w ∧ (k = 0 → lastOn 0 (H :: pre) = some a)

/-- the last node of the front part on the first step: its last one, or the one ahead of all -/
theorem last_front {H a : Nd} {pre : List Nd} (hlv : ∀ x ∈ pre, 1 ≤ x.i.s) (ha : lastOn 0 (H :: pre) = some a) (hs : H.i.s = 16) : a = pre.getLast?.getD H := by
  induction pre generalizing H with
  | nil => simp [lastOn, hs] at ha; simp [ha]
  | cons x pre ih =>
    have hx : lastOn 0 (x :: pre) = some a := by
      simp only [lastOn] at ha ⊢
      cases e : lastOn 0 pre with
      | some y => rw [e] at ha; exact ha
      | none =>
        rw [e] at ha
        have := hlv x (by simp)
        simp only [show 0 < x.i.s from by omega, if_true] at ha ⊢
        exact ha
    cases pre with
    | nil =>
      have := hlv x (by simp)
      simp [lastOn, show 0 < x.i.s from by omega] at hx
      simp [hx]
    | cons y pre =>
      have hy : lastOn 0 (y :: pre) = some a := by
        simp only [lastOn] at hx ⊢
        cases e : lastOn 0 pre with
        | some z => rw [e] at hx; exact hx
        | none =>
          rw [e] at hx
          have := hlv y (by simp)
          simp only [show 0 < y.i.s from by omega, if_true] at hx ⊢
          exact hx
      have h2 : lastOn 0 ({ H with b := H.b } :: y :: pre) = some a := by
        simp only [lastOn] at hy ⊢
        cases e : lastOn 0 pre with
        | some z => rw [e] at hy; exact hy
        | none =>
          rw [e] at hy
          have := hlv y (by simp)
          simp only [show 0 < y.i.s from by omega, if_true] at hy ⊢
          exact hy
      have := ih (H := H) (fun z hz => hlv z (List.mem_cons_of_mem _ hz)) h2 hs
      rw [this]
      simp [List.getLast?_cons_cons]

set_option maxHeartbeats 800000 in
theorem Last_raw (L : Nat) (to : ByteArray) (tb : Bool) (H : Nd) (pre post : List Nd) (w : World) (h : Is w L H (pre ++ post)) (htb : to.toList.isEmpty = tb)
    (hpre : tb = false → ∀ y ∈ pre, kl y.i.k to = true) (hpost : tb = false → ∀ y ∈ post, kl y.i.k to = false) (hall : tb = true → post = []) :
    Calls Try.prog 46 #[.pointer (some ⟨L, 0, none⟩), .string to] w fun e w' =>
      e = .returned (.tuple #[.string ((pre.getLast?.map fun x => x.i.k).getD ⟨#[]⟩), .bool pre.getLast?.isSome]) ∧ Below w.heap.size w w' := by
  have hc := Is_cell h
  have hs := h.hs
  have HK := Lib.hid h.hk
  have hm := h.mem
  have hnd := h.nd
  have HLV := Lib.hid h.lv
  clear h
  rw [← List.cons_append] at hm hnd
  have HS := Lib.hid hs
  have HTB := Lib.hid htb
  clear hs htb
  go_enter Try.func46, Try.ntmps46
  go_wp2_with fail
  refine (none_no _ _ _ hc).mono ?_
  rintro e w1 ⟨rfl, rfl⟩
  go_wp2_with fail
  go_loopg [6, 7] 16 (fun k s6 s7 wr => LastOut w H pre k s6 s7 wr)
  case atStart => exact ⟨[], H, pre, by omega, rfl, rfl, by rw [HS.out]; omega, rfl, rfl, fun h => by cases h⟩
  case round =>
    obtain ⟨xs, a, ys, hk, rfl, hsplit, hlv, rfl, rfl, hend⟩ := hrel
    have HSP := Lib.hid hsplit
    clear hsplit
    rcases gk with _ | j
    · have hlast := hend rfl
      have hgl : a = pre.getLast?.getD H := last_front (fun x hx => (HLV.out x (List.mem_append_left _ hx)).1) hlast HS.out
      have ham : a ∈ H :: pre ++ post := by rw [HSP.out]; simp
      have c1 : wr.cell? ⟨a.b, 0, none⟩ = some (.string a.i.k) := hm.key ham
      have ba := hm a ham
      have bh := hm H (by simp)
      cases hg : pre.getLast? with
      | none =>
        rw [hg] at hgl
        simp only [Option.getD_none] at hgl
        subst hgl
        have hneq := fun W => neq_ptr_same a.b Try.underlying73 (by rw [node_size]; rfl) W
        rw [HK.out] at c1
        have e0 : ((0 : Nat) : Int) - 1 = -1 := rfl
        rw [e0]
        have HG := Lib.hid hg
        clear e0 hk hlv hend hlast ba bh hpre hpost hall hm hnd ham hg
        go_wp2
        go_quiet (fail)
        go_wp2
        go_ret2
        exact ⟨by rw [HG.out]; rfl, below_drewN' (Below.refl _ _) _⟩
      | some N =>
        rw [hg] at hgl
        simp only [Option.getD_some] at hgl
        subst hgl
        have hne : a.b ≠ H.b := by
          intro e
          have hap : a ∈ pre := List.mem_of_getLast? hg
          rw [List.cons_append, blocks_cons, List.nodup_cons, blocks_append] at hnd
          exact hnd.1 (by rw [← e]; exact List.mem_append_left _ (mem_blocks hap))
        have hneq := fun n => neq_ptr_other Try.underlying73 node_size hne (wr.drewN n) ba bh
        have e0 : ((0 : Nat) : Int) - 1 = -1 := rfl
        rw [e0]
        have HG := Lib.hid hg
        clear e0 hk hlv hend hlast ba bh hpre hpost hall hm hnd ham hg hne
        go_wp2
        go_quiet (fail)
        go_wp2
        go_ret2
        exact ⟨by rw [HG.out]; rfl, below_drewN' (Below.refl _ _) _⟩
    · have e1 : ((j + 1 : Nat) : Int) - 1 = (j : Int) := by omega
      rw [e1]
      clear e1 hend
      have hj16 : j < 16 := by omega
      have hj : j < a.i.s := hlv
      clear hlv
      go_wp2
      go_loopg [6] ys.length (fun n s6 w2 => AheadIn H pre j n s6 wr w2)
      case atStart => exact ⟨xs, a, ys, rfl, HSP.out, hj, rfl, rfl⟩
      case round =>
        clear hj HSP hk
        obtain ⟨xs, a, ys, hlen, hsplit, hj, rfl, rfl⟩ := hrel
        have ham : a ∈ H :: pre ++ post := by rw [hsplit]; simp
        have hway : way (H :: pre ++ post) a.b j = firstOn j (ys ++ post) := by
          rw [hsplit, List.append_assoc, List.cons_append] at hnd ⊢
          rw [way_at hnd, if_pos hj]
        have c1 := hm.way ham hj16
        rw [hway, firstOn_append] at c1
        clear hway
        cases hf : firstOn j ys with
        | some b =>
          rw [hf] at c1
          obtain ⟨l1, y, l2, hys, rfl, hy2, hy3⟩ := firstOn_split hf
          have hyp : y ∈ H :: pre := by rw [hsplit, hys]; simp
          have hypre : y ∈ pre := by
            subst hys
            cases xs with
            | nil => simp at hsplit; rw [hsplit.2]; simp
            | cons x xs => simp at hsplit; rw [hsplit.2]; simp
          have c2 : wr.cell? ⟨y.b, 0, none⟩ = some (.string y.i.k) := hm.key (List.mem_append_left _ hyp)
          have HH := Lib.hid (And.intro hsplit (And.intro hys hlen))
          simp only [ptr_some] at c1
          cases tb with
          | true =>
            have t0 : to.toList.isEmpty = true := HTB.out
            clear hsplit hys hlen hf hpre hpost hm hnd ham hall
            go_wp2
            go_roundg l2.length
            case measure => obtain ⟨_, h2, h3⟩ := HH.out; rw [← h3, h2]; simp; omega
            case rel =>
              obtain ⟨h1, h2, _⟩ := HH.out
              exact ⟨xs ++ a :: l1, y, l2, rfl, by rw [h1, h2]; simp, hy2, rfl, rfl⟩
          | false =>
            have t0 : to.toList.isEmpty = false := HTB.out
            have t1 : Op.bytesLess y.i.k.toList to.toList = true := hpre rfl y hypre
            clear hsplit hys hlen hf hpre hpost hm hnd ham hall
            go_wp2
            go_roundg l2.length
            case measure => obtain ⟨_, h2, h3⟩ := HH.out; rw [← h3, h2]; simp; omega
            case rel =>
              obtain ⟨h1, h2, _⟩ := HH.out
              exact ⟨xs ++ a :: l1, y, l2, rfl, by rw [h1, h2]; simp, hy2, rfl, rfl⟩
        | none =>
          rw [hf] at c1
          simp only at c1
          have hlast : lastOn j (H :: pre) = some a := by rw [hsplit]; exact lastOn_of hj (firstOn_none hf)
          have hnext : LastOut wr H pre j (.pointer (some ⟨a.b, 0, none⟩)) (.int .i64 ((j : Int) - 1)) wr :=
            ⟨xs, a, ys, by omega, rfl, hsplit, Nat.le_of_lt hj, rfl, rfl, fun e => by subst e; exact hlast⟩
          have HN := Lib.hid hnext
          cases hp : firstOn j post with
          | none =>
            rw [hp] at c1
            simp only [ptr_none] at c1
            clear hsplit hlen hf hp hlast hnext hpre hpost hm hnd ham hall
            go_wp2
            go_roundg j
            case measure => omega
            case rel => exact HN.out
          | some b =>
            rw [hp] at c1
            obtain ⟨l1, z, l2, hys, rfl, _, _⟩ := firstOn_split hp
            have c2 : wr.cell? ⟨z.b, 0, none⟩ = some (.string z.i.k) := hm.key (by rw [hys]; simp)
            cases tb with
            | true => exact absurd (hall rfl) (by rw [hys]; simp)
            | false =>
              have t0 : to.toList.isEmpty = false := HTB.out
              have t1 : Op.bytesLess z.i.k.toList to.toList = false := hpost rfl z (by rw [hys]; simp)
              simp only [ptr_some] at c1
              clear hsplit hlen hf hp hlast hnext hpre hpost hm hnd ham hall hys
              go_wp2
              go_roundg j
              case measure => omega
              case rel => exact HN.out

/-- 'Last' of no bytes: the greatest key of all -/
theorem Last_all (L : Nat) (H : Nd) (l : List Nd) (w : World) (h : Is w L H l) :
    Calls Try.prog 46 #[.pointer (some ⟨L, 0, none⟩), .string ⟨#[]⟩] w fun e w' =>
      e = .returned (.tuple #[.string ((l.getLast?.map fun x => x.i.k).getD ⟨#[]⟩), .bool l.getLast?.isSome]) ∧ Below w.heap.size w w' :=
  Last_raw L ⟨#[]⟩ true H l [] w (by simpa using h) (by rw [ByteArray.toList_eq]; rfl) (fun h => by cases h) (fun h => by cases h) (fun _ => rfl)

/-- 'Last' of another text: the greatest key below it -/
theorem Last_below (L : Nat) (to : ByteArray) (H : Nd) (l : List Nd) (w : World) (h : Is w L H l) (ht : to ≠ ⟨#[]⟩) :
    Calls Try.prog 46 #[.pointer (some ⟨L, 0, none⟩), .string to] w fun e w' =>
      e = .returned (.tuple #[.string (((lo ndk to l).getLast?.map fun x => x.i.k).getD ⟨#[]⟩), .bool (lo ndk to l).getLast?.isSome]) ∧ Below w.heap.size w w' :=
  Last_raw L to false H (lo ndk to l) (hi ndk to l) w (by rw [lo_hi]; exact h) (by
    cases e : to.toList with
    | nil => exact absurd (toList_inj (by rw [e, ByteArray.toList_eq])) ht
    | cons x r => rfl) (fun _ => lo_below ndk) (fun _ => hi_above ndk h.srt) (fun h => by cases h)

end SkS
end Go.Proofs.Ytoglklldclgcbaa
