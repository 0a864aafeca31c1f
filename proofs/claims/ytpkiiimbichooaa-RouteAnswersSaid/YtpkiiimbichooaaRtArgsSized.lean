/-
  The argument 'Plan': no more splits than the claim's reach bears.
-/
import Derived.Test.YtpkiiimbichooaaRtArgs
import Derived.SizedLaws
namespace Go.Proofs.Ytpkiiimbichooaa
open Go.ChangeShapes Go.WideShapes Go.ChangeAt Go.RowKit
namespace Rt

section
variable {H : Type} {enc : TypeId × Value → H} {w : World}

theorem strs_small {t : Nat} {x : DataW H × List MemPlace} {A : Option Addr} {len cap : Nat} {l : List ByteArray} (hs : Strs w A len cap l) (h : DataW.trod enc Try.prog w 0 (fun _ => true) true t 22 [.slice A len cap] = some x)
    (hsz : ∀ n ∈ x.1.weights Try.prog 22, n ≤ reachBytes) : l.length ≤ 8796093022208 := by
  have k9 : Try.prog.cellsOf 9 = 1 := by kernel_rfl
  have kb : Try.prog.bytesOf 9 = 16 := by kernel_rfl
  have hlen := hs.hlen
  rcases Go.Deep.open_strs Try.underlying22 Try.underlying9 k9 h with ⟨hc, _⟩ | ⟨a, len', cap', m, Sx, hc, _, hl, _, hm, hx, hi⟩
  · simp at hc
    omega
  · simp at hc
    obtain ⟨rfl, rfl, rfl⟩ := hc
    subst hx
    have := hsz ((((List.range len).map fun i => (DataW.lit (.string (Sx i).data.toList) : DataW H)).length + ((List.range (m - len)).map fun j => (DataW.lit (.string (Sx (len + j)).data.toList) : DataW H)).length) * Try.prog.bytesOf 9)
      (by simp [DataW.weights, Try.underlying22])
    rw [kb] at this
    have hr := reachBytes_lt
    simp at this
    omega

theorem plan_small {d : DataW H} {p : List MemPlace} {r : Reach} {b0 : Nat} {A : Option Addr} {len cap : Nat} {l : List ByteArray} {n : Int} (hv : Value.okWide Try.prog w r b0 24 (.agg #[.slice A len cap, .int .i64 n]))
    (h : DataW.Trod enc Try.prog w 0 (fun _ => true) true 24 (.agg #[.slice A len cap, .int .i64 n]) d p) (hs : Strs w A len cap l) (hsz : ∀ n ∈ d.weights Try.prog 24, n ≤ reachBytes) : l.length ≤ 8796093022208 := by
  obtain ⟨v0, v1, y0, y1, f, hval, hd, _, h0, h1⟩ := Go.Joins.open_agg2 Try.underlying24 (by kernel_rfl) (by kernel_rfl) hv h
  simp at hval
  obtain ⟨rfl, rfl⟩ := hval
  refine strs_small hs h0 fun k hk => hsz k ?_
  rw [hd]
  simp only [DataW.weights, Try.underlying24]
  exact DataW.weights_mem_each (j := 0) (t := 22) rfl rfl k hk
end

end Rt
end Go.Proofs.Ytpkiiimbichooaa
