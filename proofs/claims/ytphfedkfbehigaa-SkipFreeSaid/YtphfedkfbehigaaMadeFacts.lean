/-
  Plain: what 'made' leaves (scriptoriumlaw09); the laws of the map's operations over rows; slices of keys.
-/
import Derived.Test.YtphfedkfbehigaaMade09
import Derived.Maps.OwnSet
namespace Go.Proofs.Ytphfedkfbehigaa
open Go.RowKit Sk
open Go.Maps (string_keyed)
open Go.WideMaps (keyOf_string_mk)
namespace St

theorem srt_madeR {l : List Row} (hs : Srt Rf.It.k l) (d : Deed) : Srt Rf.It.k (madeR d l) := by
  unfold madeR
  split
  · exact srt_dropR hs _
  · exact srt_putR hs _ _ _
theorem srt_mrows (ds : List Deed) : ∀ k, Srt Rf.It.k (mrows ds k)
  | 0 => List.Pairwise.nil
  | k + 1 => by
    by_cases h : k < ds.length
    · rw [mrows_succ (List.getElem?_eq_getElem h)]
      exact srt_madeR (srt_mrows ds k) _
    · have : mrows ds (k + 1) = mrows ds k := by
        unfold mrows
        rw [List.take_of_length_le (by omega), List.take_of_length_le (by omega)]
      rw [this]
      exact srt_mrows ds k
/-- rows whose keys are such as Go has -/
def Keyed (l : List Row) : Prop := ∀ x ∈ l, x.k.size ≤ maxLen
theorem keyed_putR {l : List Row} (hs : Srt Rf.It.k l) (h : Keyed l) {key : ByteArray} (hk : key.size ≤ maxLen) (v : Int) (s : Nat) : Keyed (putR key v s l) := by
  intro x hx
  rcases (mem_putR hs).1 hx with rfl | hx
  · exact hk
  · exact h x hx.1
theorem keyed_dropR {l : List Row} (hs : Srt Rf.It.k l) (h : Keyed l) (key : ByteArray) : Keyed (dropR key l) := fun x hx => h x ((mem_dropR hs).1 hx).1
theorem keyed_mrows (ds : List Deed) (hf : ∀ d ∈ ds, Deed.Fine d) : ∀ k, Keyed (mrows ds k)
  | 0 => fun x hx => by cases hx
  | k + 1 => by
    by_cases h : k < ds.length
    · rw [mrows_succ (List.getElem?_eq_getElem h)]
      unfold madeR
      split
      · exact keyed_dropR (srt_mrows ds k) (keyed_mrows ds hf k) _
      · exact keyed_putR (srt_mrows ds k) (keyed_mrows ds hf k) (hf _ (List.getElem_mem h)).key _ _
    · have : mrows ds (k + 1) = mrows ds k := by
        unfold mrows
        rw [List.take_of_length_le (by omega), List.take_of_length_le (by omega)]
      rw [this]
      exact keyed_mrows ds hf k
theorem srt_at {l : List Row} (hs : Srt Rf.It.k l) {i j : Nat} {x y : Row} (hij : i < j) (hx : l[i]? = some x) (hy : l[j]? = some y) : kl x.k y.k = true := by
  obtain ⟨hi, rfl⟩ := List.getElem?_eq_some_iff.1 hx
  obtain ⟨hj, rfl⟩ := List.getElem?_eq_some_iff.1 hy
  exact (List.pairwise_iff_getElem.1 hs) i j hi hj hij
theorem seek_at {l : List Row} (hs : Srt Rf.It.k l) {i : Nat} {x : Row} (hx : l[i]? = some x) : seek Rf.It.k x.k l = some x :=
  seek_of hs (List.mem_of_getElem? hx)
theorem stepKeys_all {l : List Row} (h : ∀ x ∈ l, 1 ≤ x.s) : Rf.stepKeys 1 l = l.map Rf.It.k := by
  unfold Rf.stepKeys
  rw [if_pos (by omega), List.filter_eq_self.2]
  intro x hx
  have := h x hx
  simp; omega

/-- list, map and frame -/
structure Pair (B L b : Nat) (rows : List Row) (w w1 : World) : Prop where
  low : Below B w w1
  sk : Sk B w1 L rows
  mp : Mp w1 b 80 rows
theorem Pair.below {B L b : Nat} {rows : List Row} {w w1 w2 : World} (h : Pair B L b rows w w1) (hw : B ≤ w.heap.size) (ht : Below w1.heap.size w1 w2) : Pair B L b rows w w2 :=
  ⟨h.low.trans (ht.mono (Nat.le_trans hw h.low.size)), h.sk.below ht, h.mp.below ht⟩
theorem Pair.size {B L b : Nat} {rows : List Row} {w w1 : World} (h : Pair B L b rows w w1) (hw : w.heap.size = B) : B ≤ w1.heap.size := by
  rw [← hw]; exact h.low.size

/-- a slice of keys lies in memory -/
structure Ks (w : World) (u : Value) (l : List ByteArray) : Prop where
  is : Sm.Strs w u l
  kind : ∀ g, u.ownBlock = some g → g < w.heap.size ∧ kindOf w g = some 9
theorem Ks.lt {w : World} {u : Value} {l : List ByteArray} (h : Ks w u l) : ∀ g, u.ownBlock = some g → g < w.heap.size := fun g hg => (h.kind g hg).1
theorem Ks.keep {w w' : World} {u : Value} {l : List ByteArray} (h : Ks w u l) {S : Nat → Prop} (ht : Turns S w w') (hS : ∀ g, u.ownBlock = some g → ¬ S g) : Ks w' u l := by
  have hb : ∀ g, u.ownBlock = some g → w'.heap[g]? = w.heap[g]? := fun g hg => ht.block g (h.lt g hg) (hS g hg)
  refine ⟨h.is.keep fun g o hg => ?_, fun g hg => ⟨Nat.lt_of_lt_of_le (h.lt g hg) ht.size, ?_⟩⟩
  · unfold World.cell?
    rw [show w'.heap[(⟨g, o, none⟩ : Addr).block]? = w.heap[(⟨g, o, none⟩ : Addr).block]? from hb g hg]
  · unfold kindOf
    rw [hb g hg]
    exact (h.kind g hg).2
theorem Ks.below {w w' : World} {u : Value} {l : List ByteArray} (h : Ks w u l) (hb : Below w.heap.size w w') : Ks w' u l :=
  h.keep (S := fun _ => False) (Turns.of_below hb) fun _ _ h => h
theorem Ks.turned {w w' : World} {u : Value} {l : List ByteArray} (h : Ks w u l) {ts : List TypeId} {B : Nat} (ht : Turns (Of w ts B) w w') (hts : 9 ∉ ts) : Ks w' u l :=
  h.keep ht fun g hg => by
    rintro ⟨_, t, hm, hk⟩
    rw [(h.kind g hg).2] at hk
    injection hk with hk
    exact hts (hk ▸ hm)
theorem Ks.of_owns {w : World} {B : Nat} {u : Value} {n : Nat} {l : List ByteArray} (h : w.ownsRow B 9 1 u n (l.map Value.string)) : Ks w u l := by
  refine ⟨Sm.Strs.of_owns h, fun g hg => ⟨(h.lt g hg).2, ?_⟩⟩
  rcases owns_form h with ⟨rfl, _, _⟩ | ⟨g', cap, rfl, _, _⟩
  · simp [Value.ownBlock] at hg
  · obtain ⟨cs, hb⟩ := owns_blk h
    have : g' = g := by simpa [Value.ownBlock] using hg
    subst this
    exact kind_blk hb
theorem Ks.open {w : World} {u : Value} {l : List ByteArray} (h : Ks w u l) : ∃ A c, u = .slice A l.length c ∧ ∀ k x, l[k]? = some x → ∃ g o, A = some ⟨g, o, none⟩ ∧ w.cell? ⟨g, o + k, none⟩ = some (.string x) := h.is

/-- 'v, is := m[key]' over rows -/
theorem wpList_look_mp (w : World) {ops : Array Oper} {rest : List Oper} {o : Oper} {a : Act} {Q : Exit → Act → World → Prop}
    (hg : o.guard = none) (m x : Operand) (hop : o.op = Op.lookup 42 m x true) (b n : Nat) (rows : List Row)
    (hm : a.eval m = .map (some b)) (hown : Mp w b n rows) (key : ByteArray) (hkey : key.size ≤ maxLen) (hx : a.eval x = .string key)
    (hK : wpList Try.prog ops Q rest (a.put o.dst (.tuple #[.int .i64 (getV key rows), .bool (getB key rows)])) w) :
    wpList Try.prog ops Q (o :: rest) a w := by
  obtain ⟨D, h1, h2⟩ := hown
  refine wpList_lookup_own_ok_int w hg m x 42 hop 9 3 .i64 (string_keyed Try.underlying9) Try.underlying42 Try.underlying3 (by kernel_rfl) b n D hm h1 _ (klit key) hx (keyOf_string_mk (P := Try.prog) Try.underlying9 hkey) ?_
  intro c hc _
  have e1 : Go.Maps.has D (klit key) = getB key rows := h2.has key
  have e2 : c = getV key rows := by
    unfold getV
    cases hs : seek Rf.It.k key rows with
    | some y =>
      rw [h2.val key y _ hs] at hc
      injection hc with hc
      injection hc with _ hc
      simpa using hc.symm
    | none =>
      have : Go.Maps.has D (klit key) = false := by rw [h2.has, hs]; rfl
      rw [Go.Maps.atKey_of_not_has this] at hc
      injection hc with hc
      injection hc with _ hc
      simpa using hc.symm
  rw [e1, e2]
  exact hK
/-- 'len(m)' over rows -/
theorem wpList_len_mp (w : World) {ops : Array Oper} {rest : List Oper} {o : Oper} {a : Act} {Q : Exit → Act → World → Prop}
    (hg : o.guard = none) (m : Operand) (hop : o.op = Op.call { callee := Callee.builtin Builtin.len, args := #[m], argTypes := #[42] }) (b n : Nat) (rows : List Row)
    (hm : a.eval m = .map (some b)) (hown : Mp w b n rows) (hK : wpList Try.prog ops Q rest (a.put o.dst (.int .i64 (rows.length : Nat))) w) :
    wpList Try.prog ops Q (o :: rest) a w := by
  obtain ⟨D, h1, h2⟩ := hown
  refine wpList_len_own w hg m 42 hop 9 3 Try.underlying42 _ b n D hm h1 ?_
  rw [h2.size]
  exact hK

theorem Sk.lower {B B' L : Nat} {w : World} {rows : List Row} (h : Sk B w L rows) (hB : B' ≤ B) : Sk B' w L rows := by
  obtain ⟨H, l, h⟩ := h
  exact ⟨H, l, h.is, h.rows, fun k hk => Nat.le_trans hB (h.base k hk)⟩
theorem made_pair (A : Option Addr) (len cap : Nat) (ds : List Deed) (B : Nat) (w0 w : World) (hlen : ds.length = len) (hds : Deeds w0 A ds) (hf : ∀ d ∈ ds, Deed.Fine d) (hB : w0.heap.size = B) (hb : Below B w0 w) :
    Calls Try.prog 28 #[.slice A len cap] w fun e w' => ∃ L b, e = .returned (.tuple #[.pointer (some ⟨L, 0, none⟩), .map (some b)]) ∧
      Pair B L b (mrows ds 80) w0 w' := by
  have hw : B ≤ w.heap.size := by rw [← hB]; exact hb.size
  exact (made_walk A len cap ds w hlen (hds.below (Nat.le_refl _) (hB ▸ hb)) hf).mono fun _ _ ⟨L, b, he, hs, hm, _, hbw⟩ =>
    ⟨L, b, he, ⟨hb.trans (hbw.mono hw), hs.lower hw, hm⟩⟩

end St
end Go.Proofs.Ytphfedkfbehigaa
