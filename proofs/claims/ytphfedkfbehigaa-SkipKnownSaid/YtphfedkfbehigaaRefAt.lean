/-
  Walks: the reference's list (scriptoriumref09): 'New', 'at', 'has', 'Len'.
-/
import Derived.Test.YtphfedkfbehigaaRows
import Derived.Test.YtphfedkfbehigaaFlat
import Derived.WalkSpells
import Derived.WalkLawsBesides
import Derived.Lib.Hide
import Derived.Deep.LoopGhost
namespace Go.Proofs.Ytphfedkfbehigaa
open Go.RowKit Sk
namespace Rf

structure It where
  k : ByteArray
  v : Int
  s : Nat

def rc (x : It) : List Value := [.string x.k, .int .i64 x.v, .int .i64 x.s]
theorem rc_len (x : It) : (rc x).length = 3 := rfl

/-- the reference's list lies in memory: its own block p, the slice v that lies in it -/
structure Is (B : Nat) (w : World) (p : Nat) (v : Value) (l : List It) : Prop where
  hdr : Blk w p 63 #[v]
  pB : B ≤ p
  own : w.ownsRow B 67 3 v l.length (flat rc l)

theorem Is.cells {B : Nat} {w : World} {p g n cap : Nat} {l : List It} (h : Is B w p (.slice (some ⟨g, 0, none⟩) n cap) l) {k : Nat} {x : It} (hx : l[k]? = some x) :
    n = l.length ∧ w.cell? ⟨g, k * 3, none⟩ = some (.string x.k) ∧ w.cell? ⟨g, k * 3 + 1, none⟩ = some (.int .i64 x.v) ∧ w.cell? ⟨g, k * 3 + 2, none⟩ = some (.int .i64 x.s) := by
  have hn : n = l.length := by
    rcases h.own.2 with ⟨hv, _⟩ | ⟨g', cap', cur, hv, _⟩
    · cases hv
    · injection hv
  subst hn
  have hk : k < l.length := (List.getElem?_eq_some_iff.1 hx).1
  have hc := fun j (hj : j < 3) => (h.own.cellAt (k * 3 + j) (by omega)).trans (flat_get rc_len hx hj)
  exact ⟨rfl, hc 0 (by omega), hc 1 (by omega), hc 2 (by omega)⟩

theorem Is.form {B : Nat} {w : World} {p : Nat} {v : Value} {l : List It} (h : Is B w p v l) : (v = .slice none 0 0 ∧ l = []) ∨ ∃ g cap, v = .slice (some ⟨g, 0, none⟩) l.length cap ∧ B ≤ g ∧ l.length ≤ cap := by
  rcases owns_form h.own with ⟨hv, hn, _⟩ | ⟨g, cap, hv, hb, hc⟩
  · exact .inl ⟨hv, List.eq_nil_of_length_eq_zero hn⟩
  · exact .inr ⟨g, cap, hv, hb, hc⟩

theorem Is.keep {B : Nat} {w w' : World} {p : Nat} {v : Value} {l : List It} (h : Is B w p v l) {S : Nat → Prop} (ht : Turns S w w') (hp : ¬ S p) (hg : ∀ g, v.ownBlock = some g → ¬ S g) : Is B w' p v l :=
  ⟨ht.blk h.hdr hp, h.pB, owns_keep h.own ht hg⟩

set_option maxHeartbeats 400000 in
theorem New_any (w : World) (B : Nat) (hB : B ≤ w.heap.size) :
    Calls Try.prog 12 #[] w fun e w' => e = .returned (.pointer (some ⟨w.heap.size, 0, none⟩)) ∧ Below w.heap.size w w' ∧ Is B w' w.heap.size (.slice none 0 0) [] := by
  go_enter Try.func12, Try.ntmps12
  go_wp2
  go_ret
  exact ⟨rfl, (Below.refl _ _).alloc (Nat.le_refl _) _, Blk.new _ _ _, hB, World.ownsRow_nil _ _ _ _⟩

set_option maxHeartbeats 400000 in
theorem Len_any (B p : Nat) (v : Value) (l : List It) (w : World) (h : Is B w p v l) :
    Calls Try.prog 15 #[.pointer (some ⟨p, 0, none⟩)] w fun e w' => e = .returned (.int .i64 l.length) ∧ w = w' := by
  have hc := h.hdr.cell 0
  rcases h.form with ⟨rfl, rfl⟩ | ⟨g, cap, rfl, _, _⟩
  · have hc' : w.cell? ⟨p, 0, none⟩ = some (.slice none 0 0) := hc
    clear h hc
    go_enter Try.func15, Try.ntmps15
    go_wp2
    go_ret
    exact ⟨rfl, rfl⟩
  · have hc' : w.cell? ⟨p, 0, none⟩ = some (.slice (some ⟨g, 0, none⟩) l.length cap) := hc
    clear h hc
    go_enter Try.func15, Try.ntmps15
    go_wp2
    go_ret
    exact ⟨rfl, rfl⟩

def AtRel (l : List It) (key : ByteArray) (cnt : Nat) (s : Value) (w w1 : World) : Prop :=
  ∃ xs ys, l = xs ++ ys ∧ ys.length = cnt ∧ s = .int .i64 (xs.length : Nat) ∧ (∀ x ∈ xs, kl x.k key = true) ∧ w1 = w

set_option maxHeartbeats 400000 in
theorem at_any (B p : Nat) (v : Value) (l : List It) (key : ByteArray) (w : World) (h : Is B w p v l) (hlen : l.length ≤ 1000000) :
    Calls Try.prog 45 #[.pointer (some ⟨p, 0, none⟩), .string key] w fun e w' => e = .returned (.int .i64 (lo It.k key l).length) ∧ w = w' := by
  have hc := h.hdr.cell 0
  rcases h.form with ⟨rfl, rfl⟩ | ⟨g, cap, rfl, _, hcap⟩
  · have hc' : w.cell? ⟨p, 0, none⟩ = some (.slice none 0 0) := hc
    clear h hc hlen
    go_enter Try.func45, Try.ntmps45
    go_wp2
    go_loopg [5] 0 (fun cnt s w1 => s = .int .i64 0 ∧ w1 = w)
    case atStart => exact ⟨rfl, rfl⟩
    case round =>
      obtain ⟨rfl, rfl⟩ := hrel
      go_wp2
      go_ret
      exact ⟨rfl, rfl⟩
  · have hc' : w.cell? ⟨p, 0, none⟩ = some (.slice (some ⟨g, 0, none⟩) l.length cap) := hc
    have HI := Lib.hid h
    clear h hc
    go_enter Try.func45, Try.ntmps45
    go_wp2
    go_loopg [5] l.length (fun cnt s w1 => AtRel l key cnt s w w1)
    case atStart => exact ⟨[], l, rfl, rfl, rfl, (fun _ h => by cases h), rfl⟩
    case round =>
      obtain ⟨xs, ys, hsplit, hcnt, rfl, hall, rfl⟩ := hrel
      cases ys with
      | nil =>
        have e : lo It.k key l = xs := by rw [hsplit, List.append_nil]; exact (lo_all It.k hall).1
        have hl : l.length = xs.length := by rw [hsplit]; simp
        have hge : l.length ≤ xs.length := by omega
        have HE := Lib.hid e
        clear hsplit hcnt hall hl e
        go_wp2
        go_ret
        exact ⟨by rw [HE.out]; rfl, rfl⟩
      | cons y r =>
        have hget : l[xs.length]? = some y := by rw [hsplit]; simp
        obtain ⟨_, c1, _, _⟩ := HI.out.cells hget
        have hl : l.length = xs.length + (r.length + 1) := by rw [hsplit]; simp
        have hlt : xs.length < l.length := by omega
        have hxl : xs.length ≤ 1000000 := by omega
        have HL := Lib.hid hl
        clear hl
        cases hk : kl y.k key with
        | true =>
          have t1 : Op.bytesLess y.k.toList key.toList = true := hk
          have HH := Lib.hid (And.intro hsplit (And.intro hcnt hall))
          have HK := Lib.hid hk
          clear hsplit hcnt hall hget hk
          go_wp2
          go_roundg r.length
          case measure => have := HH.out.2.1; simp at this; omega
          case rel =>
            refine ⟨xs ++ [y], r, by rw [HH.out.1]; simp, rfl, by simp, ?_, rfl⟩
            intro x hx
            rcases List.mem_append.1 hx with hx | hx
            · exact HH.out.2.2 x hx
            · rw [List.mem_singleton.1 hx]; exact HK.out
        | false =>
          have t1 : Op.bytesLess y.k.toList key.toList = false := hk
          have e : lo It.k key l = xs := by rw [hsplit]; exact (lo_of It.k hall hk).1
          have HE := Lib.hid e
          clear hsplit hcnt hall hget hk e
          go_wp2
          go_ret
          exact ⟨by rw [HE.out]; rfl, rfl⟩

end Rf
end Go.Proofs.Ytphfedkfbehigaa
