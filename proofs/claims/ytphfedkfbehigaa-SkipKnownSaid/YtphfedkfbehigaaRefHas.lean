/-
  Walks: the reference's list (scriptoriumref09): 'has' behind 'at', 'Get', 'First', 'Last', 'Steps'.
-/
import Derived.Test.YtphfedkfbehigaaRefAt
namespace Go.Proofs.Ytphfedkfbehigaa
open Go.RowKit Sk
namespace Rf

/-- the first element behind those whose keys are below one -/
theorem hi_get {α : Type} (kf : α → ByteArray) (key : ByteArray) (l : List α) : l[(lo kf key l).length]? = (hi kf key l).head? := by
  have h := lo_hi kf key l
  generalize lo kf key l = a at *
  generalize hi kf key l = b at *
  subst h
  rw [List.getElem?_append_right (Nat.le_refl _), Nat.sub_self]
  cases b <;> rfl
theorem lo_le {α : Type} (kf : α → ByteArray) (key : ByteArray) (l : List α) : (lo kf key l).length + (hi kf key l).length = l.length := by
  have h := congrArg List.length (lo_hi kf key l)
  simpa using h
theorem seek_eq {α : Type} (kf : α → ByteArray) (key : ByteArray) (l : List α) : seek kf key l = (match hi kf key l with
    | z :: _ => if (kf z).toList == key.toList then some z else none
    | [] => none) := rfl

set_option maxHeartbeats 400000 in
/-- 'has' at the place that 'at' tells -/
theorem has_at (B p : Nat) (v : Value) (l : List It) (key : ByteArray) (w : World) (h : Is B w p v l) (hlen : l.length ≤ 1000000) :
    Calls Try.prog 46 #[.pointer (some ⟨p, 0, none⟩), .int .i64 (lo It.k key l).length, .string key] w fun e w' =>
      e = .returned (.bool (seek It.k key l).isSome) ∧ w = w' := by
  have hc := h.hdr.cell 0
  rcases h.form with ⟨rfl, rfl⟩ | ⟨g, cap, rfl, _, hcap⟩
  · have hc' : w.cell? ⟨p, 0, none⟩ = some (.slice none 0 0) := hc
    clear h hc hlen
    go_enter Try.func46, Try.ntmps46
    go_wp2
    go_ret
    exact ⟨rfl, rfl⟩
  · have hc' : w.cell? ⟨p, 0, none⟩ = some (.slice (some ⟨g, 0, none⟩) l.length cap) := hc
    have hget := hi_get It.k key l
    have hle := lo_le It.k key l
    have hs := seek_eq It.k key l
    cases hh : hi It.k key l with
    | nil =>
      rw [hh] at hs hle
      simp only [List.length_nil, Nat.add_zero] at hle
      have hge : l.length ≤ (lo It.k key l).length := by omega
      have HS := Lib.hid hs
      generalize (lo It.k key l).length = n at *
      clear h hc hget hle hs hh
      go_enter Try.func46, Try.ntmps46
      go_wp2
      go_ret
      exact ⟨by rw [HS.out]; rfl, rfl⟩
    | cons x r =>
      rw [hh] at hs hle hget
      obtain ⟨_, c1, _, _⟩ := h.cells hget
      have hlt : (lo It.k key l).length < l.length := by simp at hle; omega
      generalize (lo It.k key l).length = n at *
      cases hk : (x.k.toList == key.toList) with
      | true =>
        simp only [hk, if_true] at hs
        have HS := Lib.hid hs
        clear h hc hget hle hs hh
        go_enter Try.func46, Try.ntmps46
        go_wp2
        go_ret
        exact ⟨by rw [HS.out]; rfl, rfl⟩
      | false =>
        simp only [hk] at hs
        have HS := Lib.hid hs
        clear h hc hget hle hs hh
        go_enter Try.func46, Try.ntmps46
        go_wp2
        go_ret
        exact ⟨by rw [HS.out]; rfl, rfl⟩

theorem seek_get {key : ByteArray} {l : List It} {x : It} (h : seek It.k key l = some x) : l[(lo It.k key l).length]? = some x ∧ (lo It.k key l).length < l.length := by
  obtain ⟨r, hr, _⟩ := seek_some It.k h
  have h1 := hi_get It.k key l
  rw [hr] at h1
  exact ⟨h1, (List.getElem?_eq_some_iff.1 h1).1⟩

set_option maxHeartbeats 400000 in
theorem Get_some (B p : Nat) (v : Value) (l : List It) (x : It) (key : ByteArray) (w : World) (h : Is B w p v l) (hlen : l.length ≤ 1000000) (hs : seek It.k key l = some x) :
    Calls Try.prog 17 #[.pointer (some ⟨p, 0, none⟩), .string key] w fun e w' => e = .returned (.tuple #[.int .i64 x.v, .bool true]) ∧ w = w' := by
  obtain ⟨hget, hlt⟩ := seek_get hs
  rcases h.form with ⟨rfl, rfl⟩ | ⟨g, cap, rfl, _, hcap⟩
  · simp at hlt
  · have hc' : w.cell? ⟨p, 0, none⟩ = some (.slice (some ⟨g, 0, none⟩) l.length cap) := h.hdr.cell 0
    obtain ⟨_, _, c1, _⟩ := h.cells hget
    have HA := Lib.hid (at_any B p _ l key w h hlen)
    have hhas := has_at B p _ l key w h hlen
    rw [hs] at hhas
    have HH := Lib.hid hhas
    generalize (lo It.k key l).length = n at *
    clear h hget hs hhas
    go_enter Try.func17, Try.ntmps17
    go_wp2_with fail
    refine HA.out.mono ?_
    rintro e w1 ⟨rfl, rfl⟩
    go_wp2_with fail
    refine HH.out.mono ?_
    rintro e w1 ⟨rfl, rfl⟩
    go_wp2
    go_ret2
    exact ⟨rfl, rfl⟩

set_option maxHeartbeats 400000 in
theorem Get_none (B p : Nat) (v : Value) (l : List It) (key : ByteArray) (w : World) (h : Is B w p v l) (hlen : l.length ≤ 1000000) (hs : seek It.k key l = none) :
    Calls Try.prog 17 #[.pointer (some ⟨p, 0, none⟩), .string key] w fun e w' => e = .returned (.tuple #[.int .i64 0, .bool false]) ∧ w = w' := by
  have HA := Lib.hid (at_any B p _ l key w h hlen)
  have hhas := has_at B p _ l key w h hlen
  rw [hs] at hhas
  have HH := Lib.hid hhas
  generalize (lo It.k key l).length = n at *
  clear h hs hhas
  go_enter Try.func17, Try.ntmps17
  go_wp2_with fail
  refine HA.out.mono ?_
  rintro e w1 ⟨rfl, rfl⟩
  go_wp2_with fail
  refine HH.out.mono ?_
  rintro e w1 ⟨rfl, rfl⟩
  go_wp2
  go_ret2
  exact ⟨rfl, rfl⟩

set_option maxHeartbeats 400000 in
theorem Steps_some (B p : Nat) (v : Value) (l : List It) (x : It) (key : ByteArray) (w : World) (h : Is B w p v l) (hlen : l.length ≤ 1000000) (hs : seek It.k key l = some x) :
    Calls Try.prog 23 #[.pointer (some ⟨p, 0, none⟩), .string key] w fun e w' => e = .returned (.int .i64 x.s) ∧ w = w' := by
  obtain ⟨hget, hlt⟩ := seek_get hs
  rcases h.form with ⟨rfl, rfl⟩ | ⟨g, cap, rfl, _, hcap⟩
  · simp at hlt
  · have hc' : w.cell? ⟨p, 0, none⟩ = some (.slice (some ⟨g, 0, none⟩) l.length cap) := h.hdr.cell 0
    obtain ⟨_, _, _, c1⟩ := h.cells hget
    have HA := Lib.hid (at_any B p _ l key w h hlen)
    have hhas := has_at B p _ l key w h hlen
    rw [hs] at hhas
    have HH := Lib.hid hhas
    generalize (lo It.k key l).length = n at *
    clear h hget hs hhas
    go_enter Try.func23, Try.ntmps23
    go_wp2_with fail
    refine HA.out.mono ?_
    rintro e w1 ⟨rfl, rfl⟩
    go_wp2_with fail
    refine HH.out.mono ?_
    rintro e w1 ⟨rfl, rfl⟩
    go_wp2
    go_ret
    exact ⟨rfl, rfl⟩

set_option maxHeartbeats 400000 in
theorem Steps_none (B p : Nat) (v : Value) (l : List It) (key : ByteArray) (w : World) (h : Is B w p v l) (hlen : l.length ≤ 1000000) (hs : seek It.k key l = none) :
    Calls Try.prog 23 #[.pointer (some ⟨p, 0, none⟩), .string key] w fun e w' => e = .returned (.int .i64 0) ∧ w = w' := by
  have HA := Lib.hid (at_any B p _ l key w h hlen)
  have hhas := has_at B p _ l key w h hlen
  rw [hs] at hhas
  have HH := Lib.hid hhas
  generalize (lo It.k key l).length = n at *
  clear h hs hhas
  go_enter Try.func23, Try.ntmps23
  go_wp2_with fail
  refine HA.out.mono ?_
  rintro e w1 ⟨rfl, rfl⟩
  go_wp2_with fail
  refine HH.out.mono ?_
  rintro e w1 ⟨rfl, rfl⟩
  go_wp2
  go_ret
  exact ⟨rfl, rfl⟩

set_option maxHeartbeats 400000 in
theorem First_some (B p : Nat) (v : Value) (l r : List It) (x : It) (key : ByteArray) (w : World) (h : Is B w p v l) (hlen : l.length ≤ 1000000) (hs : hi It.k key l = x :: r) :
    Calls Try.prog 19 #[.pointer (some ⟨p, 0, none⟩), .string key] w fun e w' => e = .returned (.tuple #[.string x.k, .bool true]) ∧ w = w' := by
  have hget := hi_get It.k key l
  rw [hs] at hget
  have hlt : (lo It.k key l).length < l.length := (List.getElem?_eq_some_iff.1 hget).1
  rcases h.form with ⟨rfl, rfl⟩ | ⟨g, cap, rfl, _, hcap⟩
  · simp at hlt
  · have hc' : w.cell? ⟨p, 0, none⟩ = some (.slice (some ⟨g, 0, none⟩) l.length cap) := h.hdr.cell 0
    obtain ⟨_, c1, _, _⟩ := h.cells hget
    have HA := Lib.hid (at_any B p _ l key w h hlen)
    generalize (lo It.k key l).length = n at *
    have e1 : ((n : Int) == (l.length : Int)) = false := by simp; omega
    clear h hget hs
    go_enter Try.func19, Try.ntmps19
    go_wp2_with fail
    refine HA.out.mono ?_
    rintro e w1 ⟨rfl, rfl⟩
    go_wp2
    go_ret2
    exact ⟨rfl, rfl⟩

set_option maxHeartbeats 400000 in
theorem First_none (B p : Nat) (v : Value) (l : List It) (key : ByteArray) (w : World) (h : Is B w p v l) (hlen : l.length ≤ 1000000) (hs : hi It.k key l = []) :
    Calls Try.prog 19 #[.pointer (some ⟨p, 0, none⟩), .string key] w fun e w' => e = .returned (.tuple #[.string ⟨#[]⟩, .bool false]) ∧ w = w' := by
  have hle := lo_le It.k key l
  rw [hs] at hle
  simp only [List.length_nil, Nat.add_zero] at hle
  have HA := Lib.hid (at_any B p _ l key w h hlen)
  rcases h.form with ⟨rfl, rfl⟩ | ⟨g, cap, rfl, _, hcap⟩
  · have hc' : w.cell? ⟨p, 0, none⟩ = some (.slice none 0 0) := h.hdr.cell 0
    clear h hs hlen hle
    go_enter Try.func19, Try.ntmps19
    go_wp2_with fail
    refine HA.out.mono ?_
    rintro e w1 ⟨rfl, rfl⟩
    go_wp2
    go_ret2
    exact ⟨rfl, rfl⟩
  · have hc' : w.cell? ⟨p, 0, none⟩ = some (.slice (some ⟨g, 0, none⟩) l.length cap) := h.hdr.cell 0
    generalize (lo It.k key l).length = n at *
    have e1 : ((n : Int) == (l.length : Int)) = true := by simp; omega
    clear h hs hle
    go_enter Try.func19, Try.ntmps19
    go_wp2_with fail
    refine HA.out.mono ?_
    rintro e w1 ⟨rfl, rfl⟩
    go_wp2
    go_ret2
    exact ⟨rfl, rfl⟩

set_option maxHeartbeats 400000 in
/-- 'Last' of whatever text: of the first n rows the last one -/
theorem Last_raw (B p : Nat) (v : Value) (l : List It) (key : ByteArray) (n : Nat) (tb : Bool) (w : World) (h : Is B w p v l) (hlen : l.length ≤ 1000000)
    (htb : key.toList.isEmpty = tb) (hn : n = if tb then l.length else (lo It.k key l).length) :
    Calls Try.prog 21 #[.pointer (some ⟨p, 0, none⟩), .string key] w fun e w' =>
      e = .returned (.tuple #[.string (((l.take n).getLast?.map It.k).getD ⟨#[]⟩), .bool (l.take n).getLast?.isSome]) ∧ w = w' := by
  have hle := lo_le It.k key l
  have hnl : n ≤ l.length := by rw [hn]; split <;> omega
  have HA := Lib.hid (at_any B p _ l key w h hlen)
  rcases h.form with ⟨rfl, rfl⟩ | ⟨g, cap, rfl, _, hcap⟩
  · have hc' : w.cell? ⟨p, 0, none⟩ = some (.slice none 0 0) := h.hdr.cell 0
    have hn0 : n = 0 := by simp at hnl; exact hnl
    subst hn0
    cases tb with
    | true =>
      clear h hn hlen hle hnl
      go_enter Try.func21, Try.ntmps21
      go_wp2_with fail
      refine HA.out.mono ?_
      rintro e w1 ⟨rfl, rfl⟩
      go_wp2
      go_ret2
      exact ⟨rfl, rfl⟩
    | false =>
      clear h hn hlen hle hnl
      go_enter Try.func21, Try.ntmps21
      go_wp2_with fail
      refine HA.out.mono ?_
      rintro e w1 ⟨rfl, rfl⟩
      go_wp2
      go_ret2
      exact ⟨rfl, rfl⟩
  · have hc' : w.cell? ⟨p, 0, none⟩ = some (.slice (some ⟨g, 0, none⟩) l.length cap) := h.hdr.cell 0
    rcases n with _ | k
    · have e1 : ((0 : Int) == 0) = true := rfl
      cases tb with
      | true =>
        simp only [if_true] at hn
        rw [← hn] at hc' hcap
        have hc2 : w.cell? ⟨p, 0, none⟩ = some (.slice (some ⟨g, 0, none⟩) 0 cap) := hc'
        clear h hn hlen hle hnl hc'
        go_enter Try.func21, Try.ntmps21
        go_wp2_with fail
        refine HA.out.mono ?_
        rintro e w1 ⟨rfl, rfl⟩
        go_wp2
        go_ret2
        exact ⟨rfl, rfl⟩
      | false =>
        simp only [Bool.false_eq_true, if_false] at hn
        have HA2 := HA.out
        rw [← hn] at HA2
        have HA3 := Lib.hid HA2
        clear h hn hlen hle hnl HA HA2
        go_enter Try.func21, Try.ntmps21
        go_wp2_with fail
        refine HA3.out.mono ?_
        rintro e w1 ⟨rfl, rfl⟩
        go_wp2
        go_ret2
        exact ⟨rfl, rfl⟩
    · have hk : k < l.length := by omega
      have hget : l[k]? = some l[k] := List.getElem?_eq_getElem hk
      obtain ⟨_, c1, _, _⟩ := h.cells hget
      have hlast : (l.take (k + 1)).getLast? = some l[k] := by rw [List.take_succ_eq_append_getElem hk, List.getLast?_concat]
      have HL := Lib.hid hlast
      have e1 : ((k : Int) + 1 == 0) = false := by simp; omega
      generalize l[k] = x at *
      cases tb with
      | true =>
        simp only [if_true] at hn
        rw [← hn] at hc'
        have hc2 : w.cell? ⟨p, 0, none⟩ = some (.slice (some ⟨g, 0, none⟩) (k + 1) cap) := hc'
        clear h hn hle hnl hc' hget hlast
        go_enter Try.func21, Try.ntmps21
        go_wp2_with fail
        refine HA.out.mono ?_
        rintro e w1 ⟨rfl, rfl⟩
        go_wp2
        go_ret2
        exact ⟨by rw [HL.out]; rfl, rfl⟩
      | false =>
        simp only [Bool.false_eq_true, if_false] at hn
        have HA2 := HA.out
        rw [← hn] at HA2
        have HA3 := Lib.hid HA2
        clear h hn hle HA HA2 hget hlast
        go_enter Try.func21, Try.ntmps21
        go_wp2_with fail
        refine HA3.out.mono ?_
        rintro e w1 ⟨rfl, rfl⟩
        go_wp2
        go_ret2
        exact ⟨by rw [HL.out]; rfl, rfl⟩

end Rf
end Go.Proofs.Ytphfedkfbehigaa
