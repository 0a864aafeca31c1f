/-
  A region that draws its order within a round of a loop over a function: its walk out of the walk without a fence.
-/
import Derived.Test.YtoglklldclgcbaaTbLoop
import Derived.Deep.RegionHeld3
namespace Go.Proofs.Ytoglklldclgcbaa
open Go.RowKit Go.Shelf Sk
namespace Tb

def noDefer (o : Oper) : Bool := match o.op with
  | .defer _ => false
  | _ => true
theorem upon_round {l n : Nat} {o : Oper} {a : Act} {K : Act → World → Prop} {Q : Exit → Act → World → Prop} {r : Result Next} (h : o.upon Try.prog a K Q r) : o.uponIn (Fence.wide.inRound l) n Try.prog a K Q r := by
  cases r with
  | ok x w' =>
    cases x
    case value v => exact h
    case skip => exact h
    case defer d => exact h
    case enter f args =>
      refine ⟨fun e => ?_, CallsIn.inRound l (callsIn_wide.2 h)⟩
      cases e
    case row row args =>
      refine ⟨fun e => ?_, fun c cs _ => ?_⟩
      · cases e
      · obtain ⟨v, w'', r, s⟩ := h c cs
        exact ⟨v, w'', r, stepsIn_wide.2 s⟩
    all_goals exact h.elim
  | halt x w' => cases x <;> first | exact h | exact h.elim
theorem ops_round {l n : Nat} {ops : Array Oper} {Q : Exit → Act → World → Prop} (hd : ops.toList.all noDefer = true) (hQ : ¬ LetsOut Q) : ∀ (is : List Nat) (a : Act) (w : World), wpOps Try.prog ops Q is a w → wpOpsIn (Fence.wide.inRound l) n Try.prog ops Q is a w
  | [], _, _, h => h
  | i :: rest, a, w, h => by
    unfold wpOps at h
    unfold wpOpsIn
    cases ho : ops[i]? with
    | none =>
      rw [ho] at h
      exact ops_round hd hQ rest a w h
    | some o =>
      rw [ho] at h
      simp only at h ⊢
      have hno : ∀ c, o.op ≠ .defer c := fun c e => by
        have hm : o ∈ ops.toList := by
          obtain ⟨hi, rfl⟩ := Array.getElem?_eq_some_iff.1 ho
          exact Array.getElem_mem_toList hi
        have := List.all_eq_true.1 hd o hm
        unfold noDefer at this
        rw [e] at this
        cases this
      by_cases hw : Region.wanted o (yielded ops a.tmps) = true
      · rw [if_pos hw] at h ⊢
        rcases h with h | ⟨_, h⟩
        · refine ⟨fun f _ => trivial, ?_⟩
          rw [Oper.semAt_eq _ _ _ hno]
          exact upon_round (Oper.wp_mono (fun a w h => ops_round hd hQ rest a w h) h)
        · exact absurd h hQ
      · rw [if_neg hw] at h ⊢
        exact ⟨fun f _ => trivial, ops_round hd hQ rest _ w h⟩

theorem region_round {l n id : Nat} {ops : Array Oper} {Q : Exit → Act → World → Prop} {a : Act} {w : World} (S : World → Prop) (hd : ops.toList.all noDefer = true) (hQ : ¬ LetsOut Q) (hm : Try.prog.follows .mixedOrders = true) (hS : S w.drew)
    (h : S w.drew → wpAnyH Try.prog .any ops Q S ops.size (Array.replicate ops.size false) a w.drew) : (Code.region id ops true).wpIn (Fence.wide.inRound l) n Try.prog Q a w :=
  wpIn_region_draw fun t => by
    refine ops_round hd hQ _ a _ ?_
    simp only [Region.schedule, hm, Bool.true_or, if_true]
    exact wpAny_sound ops.size t _ a _ (wpAny_of_held _ _ _ _ (h hS))

end Tb
end Go.Proofs.Ytoglklldclgcbaa
