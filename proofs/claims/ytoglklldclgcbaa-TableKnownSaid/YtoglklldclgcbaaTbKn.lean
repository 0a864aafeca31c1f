/-
  Plain: what TableKnown's tables hold.
-/
import Derived.Test.YtoglklldclgcbaaTbNone
namespace Go.Proofs.Ytoglklldclgcbaa
open Go.RowKit Go.Shelf Sk
namespace Tb

abbrev U (i : Nat) : ByteArray := T1 (UInt8.ofNat i)
def mostO : List Chg := (List.range 128).map fun i => ⟨U i, T1 118, false⟩
def mostD : List Chg := (List.range 128).map fun i => ⟨U i, ⟨#[]⟩, true⟩
def mostR (k : Nat) : List Row := (List.range k).map fun i => ⟨U i, T1 118⟩
theorem U_lt {i j : Nat} (h : i < j) (hj : j < 256) : kl (U i) (U j) = true := by
  have : UInt8.ofNat i < UInt8.ofNat j := by
    rw [UInt8.lt_iff_toNat_lt]
    simp
    omega
  simp [kl_lit, Op.bytesLess, this]
theorem mostO_get {k : Nat} (h : k < 128) : mostO[k]? = some ⟨U k, T1 118, false⟩ := by simp [mostO, h]
theorem mostD_get {k : Nat} (h : k < 128) : mostD[k]? = some ⟨U k, ⟨#[]⟩, true⟩ := by simp [mostD, h]
theorem mostR_len (k : Nat) : (mostR k).length = k := by simp [mostR]
theorem most_run : ∀ k, k ≤ 128 → runT (mostO.take k) [] = mostR k
  | 0, _ => rfl
  | k + 1, h => by
    rw [runT_take (mostO_get (by omega)), most_run k (by omega)]
    show putT (U k) (T1 118) (mostR k) = mostR (k + 1)
    have := putT_snoc (pre := mostR k) (x := ⟨U k, T1 118⟩) (fun y hy => by
      simp only [mostR, List.mem_map, List.mem_range] at hy
      obtain ⟨i, hi, rfl⟩ := hy
      exact U_lt hi (by omega))
    rw [this]
    simp [mostR, List.range_succ]
theorem mostO_len : mostO.length = 128 := by simp [mostO]
theorem mostD_len : mostD.length = 128 := by simp [mostD]
theorem chk_good {l : List Chg} (hl : l.length ≤ 128) (h : ∀ o ∈ l, badC o = false) : chkO l = 0 := by
  unfold chkO
  rw [if_neg (by omega), if_neg (by rw [Bool.not_eq_true, List.any_eq_false]; intro o ho; rw [h o ho]; simp)]
theorem chk_bad {l : List Chg} (hl : l.length ≤ 128) (o : Chg) (ho : o ∈ l) (h : badC o = true) : chkO l = 2 := by
  unfold chkO
  rw [if_neg (by omega), if_pos (List.any_eq_true.2 ⟨o, ho, h⟩)]
theorem most_chk : chkO mostO = 0 := chk_good (by rw [mostO_len]; exact Nat.le_refl _) (fun o ho => by
  simp only [mostO, List.mem_map] at ho
  obtain ⟨i, _, rfl⟩ := ho
  simp [badC, tl_lit])
theorem dels_chk : chkO mostD = 0 := chk_good (by rw [mostD_len]; exact Nat.le_refl _) (fun o ho => by
  simp only [mostD, List.mem_map] at ho
  obtain ⟨i, _, rfl⟩ := ho
  simp [badC, tl_lit])
theorem most_app : appT mostO [] = mostR 128 := by
  have h := most_run 128 (Nat.le_refl _)
  rw [List.take_of_length_le (by rw [mostO_len]; exact Nat.le_refl _)] at h
  unfold appT
  rw [if_pos most_chk, h]
theorem dropT_head (x : Row) (r : List Row) : dropT x.k (x :: r) = r := by
  have h1 : lo Row.k x.k (x :: r) = [] := by simp [lo, kl_irrefl]
  have h2 : hi Row.k x.k (x :: r) = x :: r := by simp [hi, kl_irrefl]
  unfold dropT restT
  rw [h1, h2]
  simp
theorem dels_run : ∀ k, k ≤ 128 → runT (mostD.take k) (mostR 128) = (mostR 128).drop k
  | 0, _ => rfl
  | k + 1, h => by
    rw [runT_take (mostD_get (by omega)), dels_run k (by omega)]
    have hk : k < (mostR 128).length := by rw [mostR_len]; omega
    have hx : (mostR 128)[k] = ⟨U k, T1 118⟩ := by simp [mostR]
    rw [List.drop_eq_getElem_cons hk, hx]
    exact dropT_head ⟨U k, T1 118⟩ _
theorem dels_app : appT mostD (mostR 128) = [] := by
  have h := dels_run 128 (Nat.le_refl _)
  rw [List.take_of_length_le (by rw [mostD_len]; exact Nat.le_refl _), List.drop_eq_nil_of_le (by rw [mostR_len]; exact Nat.le_refl _)] at h
  unfold appT
  rw [if_pos dels_chk, h]
theorem app_not {l : List Chg} {c : Int} (h : chkO l = c) (hc : c ≠ 0) (r : List Row) : appT l r = r := by unfold appT; rw [if_neg (by rw [h]; exact hc)]
theorem over_chk : chkO (mostO ++ [⟨T1 120, ⟨#[]⟩, false⟩]) = 5 := by
  unfold chkO
  rw [if_pos (by rw [List.length_append, mostO_len]; decide)]
theorem zero_chk : chkO [⟨T1 0, T1 118, true⟩] = 2 := chk_bad (by decide) _ (List.mem_singleton.2 rfl) (by simp [badC, tl_lit])
theorem last_chk : chkO (mostO.take 127 ++ [⟨⟨#[]⟩, ⟨#[]⟩, false⟩]) = 2 := chk_bad (by simp [mostO_len]) ⟨⟨#[]⟩, ⟨#[]⟩, false⟩ (by simp) (by simp [badC, tl_lit])
theorem nil_chk : chkO [] = 0 := rfl
theorem nil_app (r : List Row) : appT [] r = r := by unfold appT; rw [if_pos nil_chk]; rfl
def goneO : List Chg := [⟨⟨#[103, 111, 110, 101]⟩, ⟨#[]⟩, true⟩]
theorem gone_chk : chkO goneO = 0 := by simp [chkO, goneO, badC, tl_lit]
theorem gone_app : appT goneO [] = [] := by
  unfold appT
  rw [if_pos gone_chk]
  simp [runT, goneO, oneT, dropT, restT, lo, hi]

/-- the chapter's table, as the rounds turn it -/
def opsA : List Chg := [⟨T1 98, ⟨#[]⟩, true⟩, ⟨T1 99, T1 51, false⟩, ⟨T1 65, T1 48, false⟩]
def opsC : List Chg := [⟨T1 99, ⟨#[]⟩, true⟩]
def opsD : List Chg := [⟨T1 100, ⟨#[]⟩, true⟩, ⟨T1 101, T1 53, false⟩, ⟨T1 99, T1 54, false⟩]
def rowA : Row := ⟨T1 65, T1 48⟩
def rowa : Row := ⟨T1 97, T1 49⟩
def rowc : Row := ⟨T1 99, T1 51⟩
def rowd : Row := ⟨T1 100, T1 52⟩
def rowc6 : Row := ⟨T1 99, T1 54⟩
def rowe : Row := ⟨T1 101, T1 53⟩
def rs1 : List Row := [rowA, rowa, rowc, rowd]
def rs2 : List Row := [rowA, rowa, rowd]
def rs3 : List Row := [rowA, rowa, rowc6, rowe]
theorem opsA_chk : chkO opsA = 0 := by simp [chkO, opsA, badC, tl_lit]
theorem opsC_chk : chkO opsC = 0 := by simp [chkO, opsC, badC, tl_lit]
theorem opsD_chk : chkO opsD = 0 := by simp [chkO, opsD, badC, tl_lit]
theorem opsA_app : appT opsA chRows = rs1 := by
  unfold appT
  rw [if_pos opsA_chk]
  simp [runT, opsA, oneT, putT, dropT, restT, lo, hi, kl_lit, tl_lit, Op.bytesLess, chRows, rs1, rowA, rowa, rowc, rowd]
theorem opsC_app : appT opsC rs1 = rs2 := by
  unfold appT
  rw [if_pos opsC_chk]
  simp [runT, opsC, oneT, dropT, restT, lo, hi, kl_lit, tl_lit, Op.bytesLess, rs1, rs2, rowA, rowa, rowc, rowd]
theorem opsD_app : appT opsD rs2 = rs3 := by
  unfold appT
  rw [if_pos opsD_chk]
  simp [runT, opsD, oneT, putT, dropT, restT, lo, hi, kl_lit, tl_lit, Op.bytesLess, rs2, rs3, rowA, rowa, rowc6, rowd, rowe]
def upR (pre : List Row) : List Row := match pre.length with
  | 0 => chRows
  | 1 => rs1
  | _ => rs2
def upT : List Row := [rowa, rowc, rowd]
theorem next_lit (a : Array UInt8) : next ⟨a⟩ = ⟨a ++ #[0]⟩ := by
  unfold next
  exact congrArg ByteArray.mk ByteArray.data_append
theorem up0 : nextA ⟨#[]⟩ ⟨#[]⟩ chRows [] = some rowa := by simp [nextA, atA, hi, chRows, rowa, kl_lit, tl_lit, Op.bytesLess, belowT]
theorem up1 : nextA ⟨#[]⟩ ⟨#[]⟩ rs1 [rowa] = some rowc := by simp [nextA, atA, hi, rs1, rowA, rowa, rowc, rowd, next_lit, kl_lit, tl_lit, Op.bytesLess, belowT]
theorem up2 : nextA ⟨#[]⟩ ⟨#[]⟩ rs2 [rowa, rowc] = some rowd := by simp [nextA, atA, hi, rs2, rowA, rowa, rowc, rowd, next_lit, kl_lit, tl_lit, Op.bytesLess, belowT]
theorem up3 : nextA ⟨#[]⟩ ⟨#[]⟩ rs2 [rowa, rowc, rowd] = none := by simp [nextA, atA, hi, rs2, rowA, rowa, rowc, rowd, next_lit, kl_lit, Op.bytesLess]
def dnR (pre : List Row) : List Row := match pre.length with
  | 0 => rs2
  | _ => rs3
def dnT : List Row := [rowd, rowc6, rowa, rowA]
theorem dn0 : nextB ⟨#[]⟩ ⟨#[]⟩ rs2 [] = some rowd := by simp [nextB, atB, lastL, rs2, rowA, rowa, rowd, kl_lit, tl_lit, Op.bytesLess]
theorem dn1 : nextB ⟨#[]⟩ ⟨#[]⟩ rs3 [rowd] = some rowc6 := by simp [nextB, atB, lastL, lo, rs3, rowA, rowa, rowd, rowc6, rowe, kl_lit, tl_lit, Op.bytesLess]
theorem dn2 : nextB ⟨#[]⟩ ⟨#[]⟩ rs3 [rowd, rowc6] = some rowa := by simp [nextB, atB, lastL, lo, rs3, rowA, rowa, rowd, rowc6, rowe, kl_lit, tl_lit, Op.bytesLess]
theorem dn3 : nextB ⟨#[]⟩ ⟨#[]⟩ rs3 [rowd, rowc6, rowa] = some rowA := by simp [nextB, atB, lastL, lo, rs3, rowA, rowa, rowd, rowc6, rowe, kl_lit, tl_lit, Op.bytesLess]
theorem dn4 : nextB ⟨#[]⟩ ⟨#[]⟩ rs3 [rowd, rowc6, rowa, rowA] = none := by simp [nextB, atB, lastL, lo, rs3, rowA, rowa, rowd, rowc6, rowe, kl_lit, tl_lit, Op.bytesLess]

end Tb
end Go.Proofs.Ytoglklldclgcbaa
