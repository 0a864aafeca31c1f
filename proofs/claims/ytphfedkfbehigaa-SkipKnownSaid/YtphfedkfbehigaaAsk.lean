/-
  What a list of numbers answers, on both sides, told by its rows: one form for every case.
-/
import Derived.Test.YtphfedkfbehigaaState
import Derived.Test.YtphfedkfbehigaaRefStep
import Derived.Test.YtphfedkfbehigaaSame
namespace Go.Proofs.Ytphfedkfbehigaa
open Go.RowKit Sk
namespace St

def getV (key : ByteArray) (l : List Row) : Int := ((seek Rf.It.k key l).map Rf.It.v).getD 0
def getB (key : ByteArray) (l : List Row) : Bool := (seek Rf.It.k key l).isSome
def firstV (key : ByteArray) (l : List Row) : ByteArray := ((hi Rf.It.k key l).head?.map Rf.It.k).getD ⟨#[]⟩
def firstB (key : ByteArray) (l : List Row) : Bool := (hi Rf.It.k key l).head?.isSome
def lastL (key : ByteArray) (l : List Row) : List Row := if key.toList.isEmpty = true then l else lo Rf.It.k key l
def lastV (key : ByteArray) (l : List Row) : ByteArray := ((lastL key l).getLast?.map Rf.It.k).getD ⟨#[]⟩
def lastB (key : ByteArray) (l : List Row) : Bool := (lastL key l).getLast?.isSome
def stepsV (key : ByteArray) (l : List Row) : Int := ((seek Rf.It.k key l).map fun x => (x.s : Int)).getD 0

section
variable (B L : Nat) (rows : List Row) (w : World)

theorem Len_st (h : Sk B w L rows) :
    Calls Try.prog 14 #[.pointer (some ⟨L, 0, none⟩)] w fun e w' => e = .returned (.int .i64 rows.length) ∧ w = w' := by
  obtain ⟨H, l, h⟩ := h
  rw [← h.length]
  exact SkI.Len_any L H l w h.is

theorem Get_st (key : ByteArray) (h : Sk B w L rows) :
    Calls Try.prog 16 #[.pointer (some ⟨L, 0, none⟩), .string key] w fun e w' => e = .returned (.tuple #[.int .i64 (getV key rows), .bool (getB key rows)]) ∧ Below w.heap.size w w' := by
  obtain ⟨H, l, h⟩ := h
  unfold getV getB
  cases hx : seek Rf.It.k key rows with
  | some x =>
    obtain ⟨N, hN, hNe⟩ := seek_rows_some h hx
    have := SkI.Get_some L key H N l w h.is hN
    rw [hNe] at this
    exact this
  | none => exact SkI.Get_none L key H l w h.is (seek_rows_none h hx)

theorem Steps_st (key : ByteArray) (h : Sk B w L rows) :
    Calls Try.prog 22 #[.pointer (some ⟨L, 0, none⟩), .string key] w fun e w' => e = .returned (.int .i64 (stepsV key rows)) ∧ Below w.heap.size w w' := by
  obtain ⟨H, l, h⟩ := h
  unfold stepsV
  cases hx : seek Rf.It.k key rows with
  | some x =>
    obtain ⟨N, hN, hNe⟩ := seek_rows_some h hx
    have := SkI.Steps_some L key H N l w h.is hN
    rw [hNe] at this
    exact this
  | none => exact SkI.Steps_none L key H l w h.is (seek_rows_none h hx)

theorem First_st (key : ByteArray) (h : Sk B w L rows) :
    Calls Try.prog 18 #[.pointer (some ⟨L, 0, none⟩), .string key] w fun e w' => e = .returned (.tuple #[.string (firstV key rows), .bool (firstB key rows)]) ∧ Below w.heap.size w w' := by
  obtain ⟨H, l, h⟩ := h
  have hk := (rows_keys h key).2.1
  unfold firstV firstB
  cases hx : hi ndk key l with
  | cons N r =>
    rw [hx] at hk
    cases hy : hi Rf.It.k key rows with
    | nil => rw [hy] at hk; cases hk
    | cons x xs =>
      rw [hy] at hk
      simp only [List.map_cons, List.cons.injEq] at hk
      have := SkI.First_some L key H N r l w h.is hx
      rw [hk.1] at this
      exact this
  | nil =>
    rw [hx] at hk
    cases hy : hi Rf.It.k key rows with
    | nil => exact SkI.First_none L key H l w h.is hx
    | cons x xs => rw [hy] at hk; cases hk

theorem Last_st (key : ByteArray) (h : Sk B w L rows) :
    Calls Try.prog 20 #[.pointer (some ⟨L, 0, none⟩), .string key] w fun e w' => e = .returned (.tuple #[.string (lastV key rows), .bool (lastB key rows)]) ∧ Below w.heap.size w w' := by
  obtain ⟨H, l, h⟩ := h
  have hk := (rows_keys h key).1
  have aux : ∀ (a : List Nd) (b : List Row), a.map Nd.i = b.map enc → a.getLast?.map (fun x => x.i.k) = b.getLast?.map Rf.It.k := fun a b e => by
    have := congrArg List.getLast? e
    rw [List.getLast?_map, List.getLast?_map] at this
    have := congrArg (Option.map It.k) this
    rw [Option.map_map, Option.map_map] at this
    exact this
  have aux2 : ∀ (a : List Nd) (b : List Row), a.map Nd.i = b.map enc → a.getLast?.isSome = b.getLast?.isSome := fun a b e => by
    have := congrArg Option.isSome (aux a b e)
    simpa using this
  unfold lastV lastB lastL
  by_cases hk0 : key = ⟨#[]⟩
  · subst hk0
    have e0 : ((⟨#[]⟩ : ByteArray).toList.isEmpty = true) := by rw [ByteArray.toList_eq]; rfl
    rw [if_pos e0]
    have := SkI.Last_all L H l w h.is
    rw [aux l rows h.rows, aux2 l rows h.rows] at this
    exact this
  · have e0 : ¬ (key.toList.isEmpty = true) := fun e => hk0 (by
      rw [List.isEmpty_iff] at e
      exact toList_inj (by rw [e, ByteArray.toList_eq]))
    rw [if_neg e0]
    have := SkI.Last_below L key H l w h.is hk0
    rw [aux _ _ hk, aux2 _ _ hk] at this
    exact this

theorem Step_st (n : Int) (h : Sk B w L rows) (hlen : rows.length ≤ 1000000) :
    Calls Try.prog 24 #[.pointer (some ⟨L, 0, none⟩), .int .i64 n] w fun e w' =>
      ∃ u, e = .returned u ∧ w'.ownsRow w.heap.size 9 1 u (Rf.stepKeys n rows).length ((Rf.stepKeys n rows).map Value.string) ∧ Below w.heap.size w w' := by
  have hlv := lv_rows h
  obtain ⟨H, l, h⟩ := h
  by_cases hn : 1 ≤ n ∧ n ≤ 16
  · obtain ⟨m, rfl⟩ : ∃ m : Nat, n = (m : Int) + 1 := ⟨(n - 1).toNat, by omega⟩
    have e : keysOn m l = Rf.stepKeys ((m : Int) + 1) rows := by
      unfold Rf.stepKeys
      rw [if_pos (by omega)]
      have h1 : keysOn m l = ((l.map Nd.i).filter fun x => decide (m < x.s)).map It.k := by
        unfold keysOn
        rw [List.filter_map, List.map_map]
        rfl
      rw [h1, h.rows, List.filter_map, List.map_map]
      have h2 : ((fun x : It => decide (m < x.s)) ∘ enc) = fun x : Row => decide ((m : Int) + 1 ≤ (x.s : Int)) := by
        funext x
        have e : (enc x).s = x.s := rfl
        show decide (m < (enc x).s) = _
        rw [e]
        exact decide_eq_decide.2 (by omega)
      rw [h2]
      rfl
    have := SkI.Step_in L H l m w h.is (by omega) (by rw [h.length]; exact hlen)
    rw [e] at this
    exact this
  · have e : Rf.stepKeys n rows = [] := by
      unfold Rf.stepKeys
      split
      · rw [List.filter_eq_nil_iff.2 (fun x hx => by have := hlv x hx; simp; omega)]
        rfl
      · rfl
    rw [e]
    exact (SkI.Step_out L H l n w h.is (by omega)).mono fun e w' ⟨he, hw⟩ => ⟨_, he, World.ownsRow_nil _ _ _ _, hw ▸ Below.refl _ _⟩
end

section
variable (B p : Nat) (rows : List Row) (w : World)

theorem RLen_st (h : Re B w p rows) :
    Calls Try.prog 15 #[.pointer (some ⟨p, 0, none⟩)] w fun e w' => e = .returned (.int .i64 rows.length) ∧ w = w' := by
  obtain ⟨v, h⟩ := h
  exact Rf.Len_any B p v rows w h

theorem RGet_st (key : ByteArray) (h : Re B w p rows) (hlen : rows.length ≤ 1000000) :
    Calls Try.prog 17 #[.pointer (some ⟨p, 0, none⟩), .string key] w fun e w' => e = .returned (.tuple #[.int .i64 (getV key rows), .bool (getB key rows)]) ∧ w = w' := by
  obtain ⟨v, h⟩ := h
  unfold getV getB
  cases hx : seek Rf.It.k key rows with
  | some x => exact Rf.Get_some B p v rows x key w h hlen hx
  | none => exact Rf.Get_none B p v rows key w h hlen hx

theorem RSteps_st (key : ByteArray) (h : Re B w p rows) (hlen : rows.length ≤ 1000000) :
    Calls Try.prog 23 #[.pointer (some ⟨p, 0, none⟩), .string key] w fun e w' => e = .returned (.int .i64 (stepsV key rows)) ∧ w = w' := by
  obtain ⟨v, h⟩ := h
  unfold stepsV
  cases hx : seek Rf.It.k key rows with
  | some x => exact Rf.Steps_some B p v rows x key w h hlen hx
  | none => exact Rf.Steps_none B p v rows key w h hlen hx

theorem RFirst_st (key : ByteArray) (h : Re B w p rows) (hlen : rows.length ≤ 1000000) :
    Calls Try.prog 19 #[.pointer (some ⟨p, 0, none⟩), .string key] w fun e w' => e = .returned (.tuple #[.string (firstV key rows), .bool (firstB key rows)]) ∧ w = w' := by
  obtain ⟨v, h⟩ := h
  unfold firstV firstB
  cases hx : hi Rf.It.k key rows with
  | cons x r => exact Rf.First_some B p v rows r x key w h hlen hx
  | nil => exact Rf.First_none B p v rows key w h hlen hx

theorem RLast_st (key : ByteArray) (h : Re B w p rows) (hlen : rows.length ≤ 1000000) :
    Calls Try.prog 21 #[.pointer (some ⟨p, 0, none⟩), .string key] w fun e w' => e = .returned (.tuple #[.string (lastV key rows), .bool (lastB key rows)]) ∧ w = w' := by
  obtain ⟨v, h⟩ := h
  unfold lastV lastB lastL
  cases hk : key.toList.isEmpty with
  | true =>
    have := Rf.Last_raw B p v rows key rows.length true w h hlen hk rfl
    rw [List.take_length] at this
    simpa using this
  | false =>
    have := Rf.Last_raw B p v rows key (lo Rf.It.k key rows).length false w h hlen hk rfl
    rw [(take_lo Rf.It.k key rows).1] at this
    simpa using this

theorem RStep_st (n : Int) (h : Re B w p rows) (hlen : rows.length ≤ 1000000) :
    Calls Try.prog 26 #[.pointer (some ⟨p, 0, none⟩), .int .i64 n] w fun e w' =>
      ∃ u, e = .returned u ∧ w'.ownsRow w.heap.size 9 1 u (Rf.stepKeys n rows).length ((Rf.stepKeys n rows).map Value.string) ∧ Below w.heap.size w w' := by
  obtain ⟨v, h⟩ := h
  exact Rf.Step_any B p v rows n w h hlen
end

end St
end Go.Proofs.Ytphfedkfbehigaa
