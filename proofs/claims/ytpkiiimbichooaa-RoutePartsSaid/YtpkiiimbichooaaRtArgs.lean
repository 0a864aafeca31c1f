/-
  The arguments 'Plan' and 'api.Span': what the walk is told of them.
-/
import Derived.Test.YtpkiiimbichooaaRtParts
import Derived.Deep.Strs
import Derived.Lib.SmallJoins
import Derived.ProofKit
namespace Go.Proofs.Ytpkiiimbichooaa
open Go.ChangeShapes Go.WideShapes Go.ChangeAt Go.RowKit
namespace Rt

section
variable {H : Type} {enc : TypeId × Value → H} {w : World}

theorem strs_of {t : Nat} {cs : List Value} {x : DataW H × List MemPlace} {u : Value} (hcs : cs = [u]) (h : DataW.trod enc Try.prog w 0 (fun _ => true) true t 22 cs = some x) :
    ∃ A len cap l, u = .slice A len cap ∧ Strs w A len cap l := by
  have k9 : Try.prog.cellsOf 9 = 1 := by kernel_rfl
  subst hcs
  rcases Go.Deep.open_strs Try.underlying22 Try.underlying9 k9 h with ⟨hc, _⟩ | ⟨a, len, cap, m, Sx, hc, _, hl, _, hm, _, hi⟩
  · simp at hc
    exact ⟨none, 0, 0, [], hc, rfl, Nat.le_refl _, fun _ => rfl, fun k x hx => by simp at hx⟩
  · simp at hc
    simp only [if_true] at hm
    refine ⟨some a, len, cap, (List.range len).map Sx, hc, by simp, hl, fun e => (by cases e), fun k x hx => ?_⟩
    have hk : k < len := by
      have := (List.getElem?_eq_some_iff.1 hx).1
      simpa using this
    simp [hk] at hx
    subst hx
    have h1 := (hi k (by omega)).1
    have hsp := World.cell?_spot (hi 0 (by omega)).1
    obtain ⟨ab, ao, asp⟩ := a
    have hs2 : asp = none := by simpa [Addr.add] using hsp
    subst hs2
    rw [Sk.addr_add] at h1
    exact ⟨ab, ao, rfl, h1⟩

theorem plan_open {v : Value} {d : DataW H} {p : List MemPlace} {r : Reach} {b0 : Nat} (hv : Value.okWide Try.prog w r b0 24 v)
    (h : DataW.Trod enc Try.prog w 0 (fun _ => true) true 24 v d p) : ∃ A len cap l n, v = .agg #[.slice A len cap, .int .i64 n] ∧ Strs w A len cap l := by
  obtain ⟨v0, v1, y0, y1, f, rfl, _, _, h0, h1⟩ := Go.Joins.open_agg2 Try.underlying24 (by kernel_rfl) (by kernel_rfl) hv h
  obtain ⟨n, hn, _⟩ := DataW.trod_int Try.underlying3 h1
  obtain ⟨A, len, cap, l, rfl, hs⟩ := strs_of rfl h0
  simp at hn
  exact ⟨A, len, cap, l, n, by rw [hn], hs⟩

theorem span_open {v : Value} {d : DataW H} {p : List MemPlace} {r : Reach} {b0 : Nat} (hv : Value.okWide Try.prog w r b0 34 v)
    (h : DataW.Trod enc Try.prog w 0 (fun _ => true) true 34 v d p) : ∃ a b, v = .agg #[.string a, .string b] := by
  obtain ⟨v0, v1, y0, y1, f, rfl, _, _, h0, h1⟩ := Go.Joins.open_agg2 Try.underlying34 (by kernel_rfl) (by kernel_rfl) hv h
  obtain ⟨a, ha, _⟩ := DataW.trod_string Try.underlying9 h0
  obtain ⟨b, hb, _⟩ := DataW.trod_string Try.underlying9 h1
  simp at ha hb
  exact ⟨a, b, by rw [ha, hb]⟩
end

end Rt
end Go.Proofs.Ytpkiiimbichooaa
