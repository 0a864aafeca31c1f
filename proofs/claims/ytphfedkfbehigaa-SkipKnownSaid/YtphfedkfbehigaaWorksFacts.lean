/-
  The chapter's list, reckoned on its rows.
-/
import Derived.Test.YtphfedkfbehigaaAsk
namespace Go.Proofs.Ytphfedkfbehigaa
open Go.RowKit Sk
namespace Wk
open St

def ka : ByteArray := ⟨#[97]⟩
def kb : ByteArray := ⟨#[98]⟩
def kc : ByteArray := ⟨#[99]⟩
def kaa : ByteArray := ⟨#[97, 97]⟩
def k0 : ByteArray := ⟨#[]⟩
theorem kl_of (a b : ByteArray) (x : Bool) (h : Op.bytesLess a.data.toList b.data.toList = x) : kl a b = x := by
  unfold kl; rw [ByteArray.toList_eq, ByteArray.toList_eq]; exact h
theorem eq_of (a b : ByteArray) (x : Bool) (h : (a.data.toList == b.data.toList) = x) : (a.toList == b.toList) = x := by
  rw [ByteArray.toList_eq, ByteArray.toList_eq]; exact h
theorem l_ab : kl ka kb = true := kl_of _ _ _ rfl
theorem l_ba : kl kb ka = false := kl_of _ _ _ rfl
theorem l_aa : kl ka ka = false := kl_of _ _ _ rfl
theorem l_bb : kl kb kb = false := kl_of _ _ _ rfl
theorem l_ac : kl ka kc = true := kl_of _ _ _ rfl
theorem l_bc : kl kb kc = true := kl_of _ _ _ rfl
theorem l_aaa : kl ka kaa = true := kl_of _ _ _ rfl
theorem l_baa : kl kb kaa = false := kl_of _ _ _ rfl
theorem q_aa : (ka.toList == ka.toList) = true := eq_of _ _ _ rfl
theorem q_bb : (kb.toList == kb.toList) = true := eq_of _ _ _ rfl
theorem q_ba : (kb.toList == ka.toList) = false := eq_of _ _ _ rfl
theorem e_0 : k0.toList.isEmpty = true := by rw [ByteArray.toList_eq]; rfl
theorem e_a : ka.toList.isEmpty = false := by rw [ByteArray.toList_eq]; rfl
theorem e_b : kb.toList.isEmpty = false := by rw [ByteArray.toList_eq]; rfl

def r1 : List Row := [⟨kb, 1, 1⟩]
def r2 : List Row := [⟨ka, 2, 3⟩, ⟨kb, 1, 1⟩]
def r3 : List Row := [⟨ka, 2, 3⟩, ⟨kb, 3, 1⟩]
theorem p1 : putR kb 1 1 [] = r1 := rfl
theorem p2 : putR ka 2 3 r1 = r2 := by simp [putR, seek, lo, hi, r1, r2, l_ba, q_ba]
theorem p3 : putR kb 3 9 r2 = r3 := by simp [putR, seek, lo, hi, r2, r3, l_ab, l_bb]
theorem g_b : getV kb r3 = 3 ∧ getB kb r3 = true := by simp [getV, getB, seek, hi, r3, l_ab, l_bb]
theorem f_aa : firstV kaa r3 = kb ∧ firstB kaa r3 = true := by simp [firstV, firstB, hi, r3, l_aaa, l_baa]
theorem f_c : firstB kc r3 = false := by simp [firstB, hi, r3, l_ac, l_bc]
theorem t_b : lastV kb r3 = ka ∧ lastB kb r3 = true := by simp [lastV, lastB, lastL, lo, e_b, r3, l_ab, l_bb]
theorem t_0 : lastV k0 r3 = kb ∧ lastB k0 r3 = true := by simp [lastV, lastB, lastL, e_0, r3]
theorem t_a : lastB ka r3 = false := by simp [lastB, lastL, lo, e_a, r3, l_aa]
theorem s_b : stepsV kb r3 = 1 := by simp [stepsV, seek, hi, r3, l_ab, l_bb]
theorem s_a : stepsV ka r3 = 3 := by simp [stepsV, seek, hi, r3, l_aa]
theorem s_c : stepsV kc r3 = 0 := by simp [stepsV, seek, hi, r3, l_ac, l_bc]
theorem u_1 : Rf.stepKeys 1 r3 = [ka, kb] := by simp [Rf.stepKeys, r3]
theorem u_2 : Rf.stepKeys 2 r3 = [ka] := by simp [Rf.stepKeys, r3]
theorem u_4 : Rf.stepKeys 4 r3 = [] := by simp [Rf.stepKeys, r3]
theorem u_0 : Rf.stepKeys 0 r3 = [] := by simp [Rf.stepKeys]
theorem o_1 : okS 1 = true := rfl
theorem o_3 : okS 3 = true := rfl
theorem o_9 : okS 9 = true := rfl
theorem o_0 : okS 0 = false := rfl
theorem o_17 : okS 17 = false := rfl

end Wk
end Go.Proofs.Ytphfedkfbehigaa
