/-
  Walk: 'Bring' (scriptoriumref00): the remainder that is not below 0.
-/
import Derived.Test.YtoglklldclgcbaaRows
import Derived.Test.YtoglklldclgcbaaFlat
import Derived.WalkSpells
import Derived.WalkLawsBesides
import Derived.Lib.Hide
namespace Go.Proofs.Ytoglklldclgcbaa
open Go.RowKit Sk
namespace Br

set_option maxHeartbeats 400000 in
theorem Bring_any (i n : Int) (w : World) (h1 : 1 ≤ n) (h2 : n ≤ 1000000) :
    Calls Try.prog 28 #[.int .i64 i, .int .i64 n] w fun e w' => e = .returned (.int .i64 (i % n)) ∧ w = w' := by
  by_cases hi : 0 ≤ i
  · have hm : 0 ≤ i % n := Int.emod_nonneg _ (by omega)
    have hl : i % n < n := Int.emod_lt_of_pos _ (by omega)
    go_enter Try.func28, Try.ntmps28
    go_wp2
    go_ret
    exact ⟨rfl, rfl⟩
  · have hm : 0 ≤ i % n := Int.emod_nonneg _ (by omega)
    have hl : i % n < n := Int.emod_lt_of_pos _ (by omega)
    have ht : i.tmod n = i % n - ((if 0 ≤ i ∨ n ∣ i then 0 else n.natAbs : Nat) : Int) := by
      have := Int.tmod_eq_emod (a := i) (b := n)
      simpa using this
    have hna : (n.natAbs : Int) = n := by omega
    by_cases hd : n ∣ i
    · rw [if_pos (.inr hd)] at ht
      have h0 : i % n = 0 := Int.emod_eq_zero_of_dvd hd
      have ht' : i.tmod n = 0 := by omega
      have HE := Lib.hid (And.intro h0 ht')
      have b1 : ¬ i.tmod n < 0 := by omega
      clear ht hm hl h0 ht' hd hna
      go_enter Try.func28, Try.ntmps28
      go_wp2
      go_ret
      exact ⟨by rw [HE.out.1]; exact congrArg (fun x => Ending.returned (Value.int .i64 x)) HE.out.2, rfl⟩
    · rw [if_neg (by
        rintro (h | h)
        · exact hi h
        · exact hd h)] at ht
      rw [hna] at ht
      have ht' : i.tmod n + n = i % n := by omega
      have HE := Lib.hid ht'
      have b1 : i.tmod n < 0 := by omega
      have b2 : -n ≤ i.tmod n := by omega
      clear ht hm hl ht' hd hna
      go_enter Try.func28, Try.ntmps28
      go_wp2
      go_ret
      exact ⟨congrArg (fun x => Ending.returned (Value.int .i64 x)) HE.out, rfl⟩

end Br
end Go.Proofs.Ytoglklldclgcbaa
