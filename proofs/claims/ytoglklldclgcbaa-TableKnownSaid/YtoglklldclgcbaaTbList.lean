/-
  A list of texts told by its rows (keys and values; on how many steps they stand is left open). Contracts over rows.
-/
import Derived.Test.YtoglklldclgcbaaSkSLast
import Derived.Test.YtoglklldclgcbaaSkSSteps
import Derived.Test.YtoglklldclgcbaaSkSPutNew
import Derived.Test.YtoglklldclgcbaaSkSDrop
namespace Go.Proofs.Ytoglklldclgcbaa
open Go.RowKit Sk
namespace Tb

structure Row where
  k : ByteArray
  v : ByteArray
/-- a change: a key, its value (none: it is dropped) -/
def restT (key : ByteArray) (l : List Row) : List Row := match hi Row.k key l with
  | z :: r => if (z.k.toList == key.toList) = true then r else z :: r
  | [] => []
def putT (key v : ByteArray) (l : List Row) : List Row := lo Row.k key l ++ ⟨key, v⟩ :: restT key l
def dropT (key : ByteArray) (l : List Row) : List Row := lo Row.k key l ++ restT key l

theorem rest_some {key : ByteArray} {l : List Row} {x : Row} (h : seek Row.k key l = some x) : ∃ r, hi Row.k key l = x :: r ∧ restT key l = r ∧ x.k = key := by
  obtain ⟨r, hr, hk⟩ := seek_some Row.k h
  refine ⟨r, hr, ?_, hk⟩
  unfold restT
  rw [hr]
  show (if (x.k.toList == key.toList) = true then r else x :: r) = r
  rw [if_pos ((keq_iff _ _).2 hk)]
theorem rest_none {key : ByteArray} {l : List Row} (h : seek Row.k key l = none) : restT key l = hi Row.k key l := by
  unfold restT
  cases e : hi Row.k key l with
  | nil => rfl
  | cons z r =>
    have := seek_none Row.k h z r e
    show (if (z.k.toList == key.toList) = true then r else z :: r) = _
    rw [keq_false this]
    rfl
theorem rest_le (key : ByteArray) (l : List Row) : (restT key l).length ≤ (hi Row.k key l).length := by
  unfold restT
  cases hi Row.k key l with
  | nil => exact Nat.le_refl _
  | cons z r =>
    show (if (z.k.toList == key.toList) = true then r else z :: r).length ≤ _
    split <;> simp
theorem lohi_len (key : ByteArray) (l : List Row) : (lo Row.k key l).length + (hi Row.k key l).length = l.length := by
  rw [← List.length_append, lo_hi]
theorem putT_len (key v : ByteArray) (l : List Row) : (putT key v l).length ≤ l.length + 1 := by
  have := rest_le key l
  have := lohi_len key l
  unfold putT
  simp
  omega
theorem dropT_len (key : ByteArray) (l : List Row) : (dropT key l).length ≤ l.length := by
  have := rest_le key l
  have := lohi_len key l
  unfold dropT
  simp
  omega

def kindOf (w : World) (k : Nat) : Option TypeId := match w.heap[k]? with
  | some (.cells _ t _) => some t
  | _ => none
/-- a block of the set P, of one of these kinds -/
def Of (w : World) (ts : List TypeId) (P : Nat → Prop) (k : Nat) : Prop := P k ∧ ∃ t, t ∈ ts ∧ kindOf w k = some t
theorem kind_blk {w : World} {g : Nat} {t : TypeId} {cs : Array Value} (h : Blk w g t cs) : kindOf w g = some t := by
  unfold Blk at h
  simp [kindOf, h]
theorem not_of {w : World} {ts : List TypeId} {P : Nat → Prop} {g : Nat} {t : TypeId} {cs : Array Value} (h : Blk w g t cs) (ht : t ∉ ts) : ¬ Of w ts P g := by
  rintro ⟨_, t', ht', hk⟩
  rw [kind_blk h] at hk
  injection hk with hk
  exact ht (hk ▸ ht')
theorem below_of {w w' : World} {ts : List TypeId} {P : Nat → Prop} {B : Nat} (h : Turns (Of w ts P) w w') (hB : B ≤ w.heap.size) (hP : ∀ k, P k → B ≤ k) : Below B w w' := h.to_below hB fun k hk => hP k hk.1
theorem of_ne {w : World} {ts ts' : List TypeId} {P P' : Nat → Prop} {k : Nat} (h : Of w ts P k) (hd : ∀ t ∈ ts, t ∉ ts') : ¬ Of w ts' P' k := by
  obtain ⟨_, t, ht, hk⟩ := h
  rintro ⟨_, t', ht', hk'⟩
  rw [hk] at hk'
  injection hk' with e
  exact hd t ht (e ▸ ht')

abbrev Lk : List TypeId := [78, 76]
def pk (N : Nd) : ByteArray × Value := (N.i.k, N.i.v)
def enc (x : Row) : ByteArray × Value := (x.k, .string x.v)
/-- the list lies in memory, and holds these rows; all its blocks are of the set P -/
structure Holds (P : Nat → Prop) (w : World) (L : Nat) (rows : List Row) (H : Nd) (l : List Nd) : Prop where
  is : SkS.Is w L H l
  rows : l.map pk = rows.map enc
  base : ∀ k ∈ own L H l, P k
def Li (P : Nat → Prop) (w : World) (L : Nat) (rows : List Row) : Prop := ∃ H l, Holds P w L rows H l

section
variable {P : Nat → Prop} {w w' : World} {L : Nat} {rows : List Row} {H : Nd} {l : List Nd}
theorem own_kind (h : Holds P w L rows H l) {k : Nat} (hk : k ∈ own L H l) : Of w Lk P k := by
  refine ⟨h.base k hk, ?_⟩
  unfold own at hk
  rcases List.mem_cons.1 hk with rfl | hk
  · exact ⟨_, by simp, kind_blk h.is.hdr⟩
  · obtain ⟨x, hx, rfl⟩ := List.mem_map.1 hk
    exact ⟨_, by simp, kind_blk (h.is.mem x hx)⟩
theorem Holds.keep (h : Holds P w L rows H l) {S : Nat → Prop} (ht : Turns S w w') (hS : ∀ k, Of w Lk P k → ¬ S k) : Holds P w' L rows H l :=
  ⟨h.is.keep ht fun _ hk => hS _ (own_kind h hk), h.rows, h.base⟩
theorem Li.keep (h : Li P w L rows) {S : Nat → Prop} (ht : Turns S w w') (hS : ∀ k, Of w Lk P k → ¬ S k) : Li P w' L rows := by
  obtain ⟨H, l, h⟩ := h
  exact ⟨H, l, h.keep ht hS⟩
theorem Li.below (h : Li P w L rows) (ht : Below w.heap.size w w') : Li P w' L rows := h.keep (S := fun _ => False) (Turns.of_below ht) fun _ _ h => h
theorem Holds.length (h : Holds P w L rows H l) : l.length = rows.length := by
  have := congrArg List.length h.rows
  simpa using this
theorem rows_keys (h : Holds P w L rows H l) (key : ByteArray) :
    (lo ndk key l).map pk = (lo Row.k key rows).map enc ∧ (hi ndk key l).map pk = (hi Row.k key rows).map enc ∧ (seek ndk key l).map pk = (seek Row.k key rows).map enc := by
  have e := h.rows
  have h1 := congrArg (lo Prod.fst key) e
  have h2 := congrArg (hi Prod.fst key) e
  have h3 := congrArg (seek Prod.fst key) e
  rw [lo_map, lo_map] at h1
  rw [hi_map, hi_map] at h2
  rw [seek_map, seek_map] at h3
  exact ⟨h1, h2, h3⟩
theorem seek_rows_some (h : Holds P w L rows H l) {key : ByteArray} {x : Row} (hx : seek Row.k key rows = some x) : ∃ N, seek ndk key l = some N ∧ pk N = enc x := by
  have := (rows_keys h key).2.2
  rw [hx] at this
  cases e : seek ndk key l with
  | none => rw [e] at this; cases this
  | some N => rw [e] at this; injection this with this; exact ⟨N, rfl, this⟩
theorem seek_rows_none (h : Holds P w L rows H l) {key : ByteArray} (hx : seek Row.k key rows = none) : seek ndk key l = none := by
  have := (rows_keys h key).2.2
  rw [hx] at this
  cases e : seek ndk key l with
  | none => rfl
  | some N => rw [e] at this; cases this
theorem srt_rows (h : Li P w L rows) : Srt Row.k rows := by
  obtain ⟨H, l, h⟩ := h
  have h1 : (l.map pk).Pairwise fun x y => kl x.1 y.1 = true := by
    rw [List.pairwise_map]; exact h.is.srt
  rw [h.rows, List.pairwise_map] at h1
  exact h1
theorem Li.widen {Q : Nat → Prop} (h : Li P w L rows) (hq : ∀ k, P k → k < w.heap.size → Q k) : Li Q w L rows := by
  obtain ⟨H, l, h⟩ := h
  refine ⟨H, l, h.is, h.rows, fun k hk => hq k (h.base k hk) ?_⟩
  unfold own at hk
  rcases List.mem_cons.1 hk with rfl | hk
  · exact h.is.hdr.lt
  · obtain ⟨x, hx, rfl⟩ := List.mem_map.1 hk
    exact (h.is.mem x hx).lt
end

theorem New_li (w : World) (P : Nat → Prop) (hB : ∀ k, w.heap.size ≤ k → P k) :
    Calls Try.prog 33 #[] w fun e w' => e = .returned (.pointer (some ⟨w.heap.size + 1, 0, none⟩)) ∧ Below w.heap.size w w' ∧ Li P w' (w.heap.size + 1) [] ∧ w'.heap.size = w.heap.size + 2 :=
  (SkS.New_any w).mono fun _ _ ⟨H, he, hb, hi, hh, hs⟩ => ⟨he, hb, ⟨H, [], hi, rfl, fun k hk => by
    simp only [own, blocks_cons, blocks_nil, List.mem_cons, List.not_mem_nil, or_false] at hk
    rcases hk with rfl | rfl <;> exact hB _ (by omega)⟩, hs⟩

theorem Put_li (P : Nat → Prop) (L : Nat) (rows : List Row) (key v : ByteArray) (m : Nat) (w : World) (h : Li P w L rows) (hB : ∀ k, w.heap.size ≤ k → P k) (hm1 : 1 ≤ m) (hm2 : m ≤ 16) (hlen : rows.length ≤ 999999) :
    Calls Try.prog 37 #[.pointer (some ⟨L, 0, none⟩), .string key, .string v, .int .i64 m] w fun e w' => e = .returned (.bool true) ∧
      Li P w' L (putT key v rows) ∧ Turns (Of w Lk P) w w' := by
  obtain ⟨H, l, h⟩ := h
  have hk := rows_keys h key
  cases hx : seek Row.k key rows with
  | some x =>
    obtain ⟨N, hN, hNe⟩ := seek_rows_some h hx
    obtain ⟨r, hr, hNk⟩ := seek_some ndk hN
    obtain ⟨r2, hr2, hrest, hxk⟩ := rest_some hx
    have hsp := lo_hi ndk key l
    rw [hr] at hsp
    refine (SkS.Put_old L H N l (lo ndk key l) r key v m w h.is hm1 hm2 hsp.symm hN).mono fun e w' ⟨he, hi', ht⟩ => ⟨he, ⟨H, _, hi', ?_, ?_⟩, ?_⟩
    · have h2 := hk.2.1
      rw [hr, hr2] at h2
      simp only [List.map_cons, List.cons.injEq] at h2
      unfold putT
      rw [hrest, List.map_append, List.map_append, hk.1, List.map_cons, List.map_cons, h2.2]
      have : pk (N.put (.string v)) = enc ⟨key, v⟩ := by
        have h3 := congrArg Prod.fst hNe
        simp only [pk, enc] at h3 ⊢
        rw [Nd.put_k, Nd.put_v, h3, hxk]
      rw [this]
    · intro k hk2
      have : k ∈ own L H l := by
        rw [← hsp]
        unfold own at hk2 ⊢
        simpa using hk2
      exact h.base k this
    · refine ht.mono fun k _ hk2 => ?_
      subst hk2
      refine own_kind h ?_
      unfold own
      exact List.mem_cons_of_mem _ (mem_blocks (List.mem_cons_of_mem _ (seek_mem ndk hN).1))
  | none =>
    have hN := seek_rows_none h hx
    refine (SkS.Put_new L H l (lo ndk key l) (hi ndk key l) key v m w h.is hm1 hm2 (lo_hi ndk key l).symm hN (lo_below ndk) (hi_above ndk h.is.srt) (by rw [h.length]; omega)).mono
      fun e w' ⟨he, b, hb, hi', ht⟩ => ⟨he, ⟨H, _, hi', ?_, ?_⟩, ?_⟩
    · unfold putT
      rw [rest_none hx]
      simp only [List.map_append, List.map_cons, hk.1, hk.2.1]
      rfl
    · intro k hk2
      have hcase : k = b ∨ k ∈ own L H l := by
        have hsp := lo_hi ndk key l
        unfold own at hk2 ⊢
        rw [← hsp]
        simp only [blocks_cons, blocks_append, List.mem_cons, List.mem_append] at hk2 ⊢
        rcases hk2 with h1 | h1 | h1 | h1 | h1
        · exact .inr (.inl h1)
        · exact .inr (.inr (.inl h1))
        · exact .inr (.inr (.inr (.inl h1)))
        · exact .inl h1
        · exact .inr (.inr (.inr (.inr h1)))
      rcases hcase with rfl | hk3
      · exact hB _ hb
      · exact h.base k hk3
    · refine ht.mono fun k _ hk2 => own_kind h ?_
      have hsp := lo_hi ndk key l
      unfold own at hk2 ⊢
      rw [← hsp]
      simp only [blocks_cons, blocks_append, List.mem_cons, List.mem_append] at hk2 ⊢
      rcases hk2 with h1 | h1 | h1
      · exact .inl h1
      · exact .inr (.inl h1)
      · exact .inr (.inr (.inl h1))

theorem Drop_li (P : Nat → Prop) (L : Nat) (rows : List Row) (key : ByteArray) (w : World) (h : Li P w L rows) (hlen : rows.length ≤ 1000000) :
    Calls Try.prog 36 #[.pointer (some ⟨L, 0, none⟩), .string key] w fun e w' => (∃ q, e = .returned (.bool q)) ∧
      Li P w' L (dropT key rows) ∧ Turns (Of w Lk P) w w' := by
  obtain ⟨H, l, h⟩ := h
  have hk := rows_keys h key
  cases hx : seek Row.k key rows with
  | some x =>
    obtain ⟨N, hN, hNe⟩ := seek_rows_some h hx
    obtain ⟨r, hr, hNk⟩ := seek_some ndk hN
    obtain ⟨r2, hr2, hrest, hxk⟩ := rest_some hx
    have hsp := lo_hi ndk key l
    have hab := hi_above (key := key) ndk h.is.srt
    rw [hr] at hsp hab
    refine (SkS.Drop_some L H N l (lo ndk key l) r key w h.is hsp.symm hN (lo_below ndk) hab (by rw [h.length]; exact hlen)).mono fun e w' ⟨he, hi', ht⟩ => ⟨⟨_, he⟩, ⟨H, _, hi', ?_, ?_⟩, ?_⟩
    · have h2 := hk.2.1
      rw [hr, hr2] at h2
      simp only [List.map_cons, List.cons.injEq] at h2
      unfold dropT
      rw [hrest, List.map_append, List.map_append, hk.1, h2.2]
    · intro k hk2
      refine h.base k ?_
      rw [← hsp]
      unfold own at hk2 ⊢
      simp only [blocks_cons, blocks_append, List.mem_cons, List.mem_append] at hk2 ⊢
      rcases hk2 with h1 | h1 | h1 | h1
      · exact .inl h1
      · exact .inr (.inl h1)
      · exact .inr (.inr (.inl h1))
      · exact .inr (.inr (.inr (.inr h1)))
    · refine ht.mono fun k _ hk2 => own_kind h ?_
      rw [← hsp]
      unfold own at hk2 ⊢
      simp only [blocks_cons, blocks_append, List.mem_cons, List.mem_append] at hk2 ⊢
      rcases hk2 with h1 | h1 | h1
      · exact .inl h1
      · exact .inr (.inl h1)
      · exact .inr (.inr (.inl h1))
  | none =>
    refine (SkS.Drop_none L key H l w h.is (seek_rows_none h hx)).mono fun e w' ⟨he, hb⟩ => ⟨⟨_, he⟩, ?_, Turns.of_below hb⟩
    have : dropT key rows = rows := by unfold dropT; rw [rest_none hx, lo_hi]
    rw [this]
    exact ⟨H, l, h.keep (S := fun _ => False) (Turns.of_below hb) fun _ _ h => h⟩

section
variable (P : Nat → Prop) (L : Nat) (rows : List Row) (w : World)
theorem Len_li (h : Li P w L rows) :
    Calls Try.prog 40 #[.pointer (some ⟨L, 0, none⟩)] w fun e w' => e = .returned (.int .i64 rows.length) ∧ w = w' := by
  obtain ⟨H, l, h⟩ := h
  rw [← h.length]
  exact SkS.Len_any L H l w h.is
def getV (key : ByteArray) (l : List Row) : ByteArray := ((seek Row.k key l).map Row.v).getD ⟨#[]⟩
def getB (key : ByteArray) (l : List Row) : Bool := (seek Row.k key l).isSome
theorem Get_li (key : ByteArray) (h : Li P w L rows) :
    Calls Try.prog 41 #[.pointer (some ⟨L, 0, none⟩), .string key] w fun e w' => e = .returned (.tuple #[.string (getV key rows), .bool (getB key rows)]) ∧ Below w.heap.size w w' := by
  obtain ⟨H, l, h⟩ := h
  unfold getV getB
  cases hx : seek Row.k key rows with
  | some x =>
    obtain ⟨N, hN, hNe⟩ := seek_rows_some h hx
    have := SkS.Get_some L key H N l w h.is hN
    rw [show N.i.v = .string x.v from congrArg Prod.snd hNe] at this
    exact this
  | none => exact SkS.Get_none L key H l w h.is (seek_rows_none h hx)
theorem First_li (key : ByteArray) (h : Li P w L rows) :
    Calls Try.prog 44 #[.pointer (some ⟨L, 0, none⟩), .string key] w fun e w' => e = .returned (.tuple #[.string (((hi Row.k key rows).head?.map Row.k).getD ⟨#[]⟩), .bool (hi Row.k key rows).head?.isSome]) ∧ Below w.heap.size w w' := by
  obtain ⟨H, l, h⟩ := h
  have hk := (rows_keys h key).2.1
  cases hx : hi ndk key l with
  | nil =>
    rw [hx] at hk
    have : hi Row.k key rows = [] := by simpa using hk.symm
    rw [this]
    exact SkS.First_none L key H l w h.is hx
  | cons N r =>
    rw [hx] at hk
    cases hy : hi Row.k key rows with
    | nil => rw [hy] at hk; cases hk
    | cons z r2 =>
      rw [hy] at hk
      simp only [List.map_cons, List.cons.injEq] at hk
      have := SkS.First_some L key H N r l w h.is hx
      rw [show N.i.k = z.k from congrArg Prod.fst hk.1] at this
      exact this
def lastL (key : ByteArray) (l : List Row) : List Row := if key.toList.isEmpty = true then l else lo Row.k key l
theorem last_map {l : List Nd} (h : l.map pk = rows.map enc) : (l.getLast?.map fun x => x.i.k) = rows.getLast?.map Row.k := by
  have h1 := congrArg (fun t => (t.getLast?).map Prod.fst) h
  simp only [List.getLast?_map, Option.map_map] at h1
  exact h1
theorem Last_li (key : ByteArray) (h : Li P w L rows) :
    Calls Try.prog 46 #[.pointer (some ⟨L, 0, none⟩), .string key] w fun e w' => e = .returned (.tuple #[.string (((lastL key rows).getLast?.map Row.k).getD ⟨#[]⟩), .bool (lastL key rows).getLast?.isSome]) ∧ Below w.heap.size w w' := by
  obtain ⟨H, l, h⟩ := h
  have key2 : ∀ (a : List Nd) (b : List Row), a.map pk = b.map enc → ((a.getLast?.map fun x => x.i.k).getD ⟨#[]⟩ = (b.getLast?.map Row.k).getD ⟨#[]⟩) ∧ a.getLast?.isSome = b.getLast?.isSome := fun a b hab => by
    have h1 := last_map b hab
    exact ⟨by rw [h1], by have := congrArg Option.isSome h1; simpa using this⟩
  unfold lastL
  by_cases he : key.toList.isEmpty = true
  · rw [if_pos he]
    have : key = ⟨#[]⟩ := toList_inj (by rw [ByteArray.toList_eq ⟨#[]⟩]; simpa using he)
    subst this
    obtain ⟨h1, h2⟩ := key2 l rows h.rows
    have := SkS.Last_all L H l w h.is
    rw [h1, h2] at this
    exact this
  · rw [if_neg he]
    obtain ⟨h1, h2⟩ := key2 _ _ (rows_keys h key).1
    have := SkS.Last_below L key H l w h.is (fun e => he (by rw [e, ByteArray.toList_eq]; rfl))
    rw [h1, h2] at this
    exact this
theorem Steps_li (key : ByteArray) (x : Row) (h : Li P w L rows) (hx : seek Row.k key rows = some x) :
    Calls Try.prog 47 #[.pointer (some ⟨L, 0, none⟩), .string key] w fun e w' => ∃ m : Nat, 1 ≤ m ∧ m ≤ 16 ∧ e = .returned (.int .i64 m) ∧ Below w.heap.size w w' := by
  obtain ⟨H, l, h⟩ := h
  obtain ⟨N, hN, hNe⟩ := seek_rows_some h hx
  have hlv := h.is.lv N (seek_mem ndk hN).1
  exact (SkS.Steps_some L key H N l w h.is hN).mono fun _ _ ⟨he, hb⟩ => ⟨_, hlv.1, hlv.2, he, hb⟩
end

end Tb
end Go.Proofs.Ytoglklldclgcbaa
