/-
  Walk: the laws' 'keys'.
-/
import Derived.Test.YtoglklldclgcbaaTbSame
import Derived.Test.YtoglklldclgcbaaTbRanged
namespace Go.Proofs.Ytoglklldclgcbaa
open Go.RowKit Sk
namespace Tb

def catK (l : List Row) : ByteArray := l.foldl (fun a x => a ++ x.k) ⟨#[]⟩
theorem catK_take {l : List Row} {k : Nat} {x : Row} (h : l[k]? = some x) : catK (l.take (k + 1)) = catK (l.take k) ++ x.k := by
  obtain ⟨hk, rfl⟩ := List.getElem?_eq_some_iff.1 h
  unfold catK
  rw [List.take_succ_eq_append_getElem hk, List.foldl_append]
  rfl
theorem catK_small (l : List Row) (hs : ∀ x ∈ l, x.k.size ≤ 1) : ∀ k, (catK (l.take k)).size ≤ k
  | 0 => Nat.le_refl _
  | k + 1 => by
    have ih := catK_small l hs k
    by_cases hk : k < l.length
    · rw [catK_take (List.getElem?_eq_getElem hk), ByteArray.size_append]
      have := hs _ (List.getElem_mem hk)
      omega
    · rw [List.take_of_length_le (by omega)]
      rw [List.take_of_length_le (by omega)] at ih
      omega
def KeyR (l : List Row) (w : World) (cnt : Nat) (s9 s11 : Value) (w1 : World) : Prop := ∃ k, k + cnt = l.length ∧ s9 = .string (catK (l.take k)) ∧ s11 = .int .i64 (k : Nat) ∧ w1 = w

set_option maxHeartbeats 1000000 in
theorem keys_any (t : Nat) (frm tt : ByteArray) (back : Bool) (rs : List Row) (w : World)
    (hr : Calls Try.prog 24 #[TP t, .string frm, .string tt, .bool back] w fun e w' => ∃ v, e = .returned v ∧ w'.ownsRow w.heap.size 39 2 v rs.length (flat rcR rs) ∧ Below w.heap.size w w')
    (hlen : rs.length ≤ 1000) (hsz : ∀ x ∈ rs, x.k.size ≤ 1) :
    Calls Try.prog 32 #[TP t, .string frm, .string tt, .bool back] w fun e w' => e = .returned (.string (catK rs)) ∧ Below w.heap.size w w' := by
  have HR := Lib.hid hr
  have HSZ := Lib.hid hsz
  clear hr hsz
  go_enter Try.func32, Try.ntmps32
  go_wp2_with fail
  refine HR.out.mono ?_
  rintro e w1 ⟨v, rfl, hown, hb⟩
  obtain ⟨A, c, rfl, hcs⟩ := Rws.of_owns hown
  have HC := Lib.hid hcs
  have HB := Lib.hid hb
  obtain ⟨n, hn⟩ : ∃ n, n = rs.length := ⟨_, rfl⟩
  have HN := Lib.hid hn
  rw [← hn] at hlen ⊢
  clear hown hb hcs hn HR
  go_wp2_with fail
  go_loopg [9, 11] n (fun cnt s9 s11 w2 => KeyR rs w1 cnt s9 s11 w2)
  case atStart => exact ⟨0, by have := HN.out; omega, rfl, rfl, rfl⟩
  case round =>
    obtain ⟨k, hk, rfl, rfl, rfl⟩ := hrel
    rw [← HN.out] at hk
    have HK := Lib.hid hk
    by_cases hlt : k < n
    · obtain ⟨x, hx⟩ : ∃ x, rs[k]? = some x := ⟨_, List.getElem?_eq_getElem (show k < rs.length by rw [← HN.out]; exact hlt)⟩
      obtain ⟨g, o, rfl, x0, x1⟩ := HC.out k x hx
      have b1 : (k : Int) < (n : Int) := by omega
      have b2 : (0 : Int) ≤ (k : Int) := by omega
      have hs1 := catK_small rs HSZ.out k
      have hs2 := HSZ.out x (List.mem_of_getElem? hx)
      have hst : (catK (rs.take k)).size + x.k.size ≤ 9223372036854775807 := by omega
      have HF : Hid (KeyR rs wr (n - (k + 1)) (.string (catK (rs.take k) ++ x.k)) (.int .i64 ((k : Int) + 1)) wr) := ⟨k + 1, by rw [← HN.out]; omega, by rw [catK_take hx], by simp, rfl⟩
      generalize catK (rs.take k) = a at *
      clear hk hx x1 hs1 hs2
      go_wp2
      go_roundg (n - (k + 1))
      case measure => have := HK.out; omega
      case rel => exact HF.out
    · have ek : decide ((k : Int) < (n : Int)) = false := by simp; omega
      have ek2 : decide (k < n) = false := by simp; omega
      have HE : Hid (catK (rs.take k) = catK rs) := by
        show _ = _
        rw [List.take_of_length_le (by rw [← HN.out]; omega)]
      clear hk
      go_wp2
      go_ret
      exact ⟨by rw [← HE.out]; rfl, HB.out⟩

end Tb
end Go.Proofs.Ytoglklldclgcbaa
