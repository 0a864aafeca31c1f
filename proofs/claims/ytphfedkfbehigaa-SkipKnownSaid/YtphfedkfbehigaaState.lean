/-
  What a list of numbers is, on both sides: rows in order; how 'Put', 'Drop' turn them. Contracts over rows.
-/
import Derived.Test.YtphfedkfbehigaaSkILast
import Derived.Test.YtphfedkfbehigaaSkIStep
import Derived.Test.YtphfedkfbehigaaSkISteps
import Derived.Test.YtphfedkfbehigaaSkIPutNew
import Derived.Test.YtphfedkfbehigaaSkIDrop
import Derived.Test.YtphfedkfbehigaaRefDrop
namespace Go.Proofs.Ytphfedkfbehigaa
open Go.RowKit Sk
namespace St

abbrev Row := Rf.It

def kindOf (w : World) (k : Nat) : Option TypeId := match w.heap[k]? with
  | some (.cells _ t _) => some t
  | _ => none
/-- a block at or beyond B, of one of these kinds -/
def Of (w : World) (ts : List TypeId) (B k : Nat) : Prop := B ≤ k ∧ ∃ t, t ∈ ts ∧ kindOf w k = some t
theorem kind_blk {w : World} {g : Nat} {t : TypeId} {cs : Array Value} (h : Blk w g t cs) : kindOf w g = some t := by
  unfold Blk at h
  simp [kindOf, h]
theorem not_of {w : World} {ts : List TypeId} {B g : Nat} {t : TypeId} {cs : Array Value} (h : Blk w g t cs) (ht : t ∉ ts) : ¬ Of w ts B g := by
  rintro ⟨_, t', ht', hk⟩
  rw [kind_blk h] at hk
  injection hk with hk
  exact ht (hk ▸ ht')
theorem below_of {w w' : World} {ts : List TypeId} {B : Nat} (h : Turns (Of w ts B) w w') (hB : B ≤ w.heap.size) : Below B w w' := h.to_below hB fun _ hk => hk.1

def enc (x : Row) : It := ⟨x.k, .int .i64 x.v, x.s⟩

def putR (key : ByteArray) (v : Int) (s : Nat) (l : List Row) : List Row := match seek Rf.It.k key l with
  | some x => l.set (lo Rf.It.k key l).length ⟨x.k, v, x.s⟩
  | none => lo Rf.It.k key l ++ ⟨key, v, s⟩ :: hi Rf.It.k key l
def dropR (key : ByteArray) (l : List Row) : List Row := match seek Rf.It.k key l with
  | some _ => lo Rf.It.k key l ++ (hi Rf.It.k key l).tail
  | none => l
/-- may a key stand on so many steps? -/
def okS (s : Int) : Bool := decide (1 ≤ s ∧ s ≤ 16)

theorem putR_length (key : ByteArray) (v : Int) (s : Nat) (l : List Row) : (putR key v s l).length ≤ l.length + 1 := by
  unfold putR
  have := Rf.lo_le Rf.It.k key l
  split
  · simp
  · simp; omega
theorem dropR_length (key : ByteArray) (l : List Row) : (dropR key l).length ≤ l.length := by
  unfold dropR
  have := Rf.lo_le Rf.It.k key l
  split
  · simp; omega
  · exact Nat.le_refl _

/-- the list lies in memory, and holds these rows; all its blocks lie at or beyond B -/
structure Holds (B : Nat) (w : World) (L : Nat) (rows : List Row) (H : Nd) (l : List Nd) : Prop where
  is : SkI.Is w L H l
  rows : l.map Nd.i = rows.map enc
  base : ∀ k ∈ own L H l, B ≤ k
def Sk (B : Nat) (w : World) (L : Nat) (rows : List Row) : Prop := ∃ H l, Holds B w L rows H l

section
variable {B : Nat} {w w' : World} {L : Nat} {rows : List Row} {H : Nd} {l : List Nd}
theorem own_kind (h : Holds B w L rows H l) {k : Nat} (hk : k ∈ own L H l) : Of w [57, 60] B k := by
  refine ⟨h.base k hk, ?_⟩
  unfold own at hk
  rcases List.mem_cons.1 hk with rfl | hk
  · exact ⟨_, by simp, kind_blk h.is.hdr⟩
  · obtain ⟨x, hx, rfl⟩ := List.mem_map.1 hk
    exact ⟨_, by simp, kind_blk (h.is.mem x hx)⟩
theorem Holds.keep (h : Holds B w L rows H l) {S : Nat → Prop} (ht : Turns S w w') (hS : ∀ k, Of w [57, 60] B k → ¬ S k) : Holds B w' L rows H l :=
  ⟨h.is.keep ht fun _ hk => hS _ (own_kind h hk), h.rows, h.base⟩
theorem Sk.keep (h : Sk B w L rows) {S : Nat → Prop} (ht : Turns S w w') (hS : ∀ k, Of w [57, 60] B k → ¬ S k) : Sk B w' L rows := by
  obtain ⟨H, l, h⟩ := h
  exact ⟨H, l, h.keep ht hS⟩
theorem Sk.below (h : Sk B w L rows) (ht : Below w.heap.size w w') : Sk B w' L rows := h.keep (S := fun _ => False) (Turns.of_below ht) fun _ _ h => h
theorem Holds.length (h : Holds B w L rows H l) : l.length = rows.length := by
  have := congrArg List.length h.rows
  simpa using this
theorem rows_keys (h : Holds B w L rows H l) (key : ByteArray) :
    (lo ndk key l).map Nd.i = (lo Rf.It.k key rows).map enc ∧ (hi ndk key l).map Nd.i = (hi Rf.It.k key rows).map enc ∧ (seek ndk key l).map Nd.i = (seek Rf.It.k key rows).map enc := by
  have e := h.rows
  have h1 := congrArg (lo It.k key) e
  have h2 := congrArg (hi It.k key) e
  have h3 := congrArg (seek It.k key) e
  rw [lo_map, lo_map] at h1
  rw [hi_map, hi_map] at h2
  rw [seek_map, seek_map] at h3
  exact ⟨h1, h2, h3⟩
theorem seek_rows_some (h : Holds B w L rows H l) {key : ByteArray} {x : Row} (hx : seek Rf.It.k key rows = some x) : ∃ N, seek ndk key l = some N ∧ N.i = enc x := by
  have := (rows_keys h key).2.2
  rw [hx] at this
  cases e : seek ndk key l with
  | none => rw [e] at this; cases this
  | some N => rw [e] at this; injection this with this; exact ⟨N, rfl, this⟩
theorem seek_rows_none (h : Holds B w L rows H l) {key : ByteArray} (hx : seek Rf.It.k key rows = none) : seek ndk key l = none := by
  have := (rows_keys h key).2.2
  rw [hx] at this
  cases e : seek ndk key l with
  | none => rfl
  | some N => rw [e] at this; cases this
theorem srt_rows (h : Sk B w L rows) : Srt Rf.It.k rows := by
  obtain ⟨H, l, h⟩ := h
  have h1 : (l.map Nd.i).Pairwise fun x y => kl x.k y.k = true := by
    rw [List.pairwise_map]; exact h.is.srt
  rw [h.rows, List.pairwise_map] at h1
  exact h1
theorem lv_rows (h : Sk B w L rows) : ∀ x ∈ rows, 1 ≤ x.s ∧ x.s ≤ 16 := by
  obtain ⟨H, l, h⟩ := h
  intro x hx
  have : enc x ∈ l.map Nd.i := by rw [h.rows]; exact List.mem_map_of_mem hx
  obtain ⟨N, hN, e⟩ := List.mem_map.1 this
  have := h.is.lv N hN
  rw [e] at this
  exact this
end

theorem New_st (w : World) (B : Nat) (hB : B ≤ w.heap.size) :
    Calls Try.prog 11 #[] w fun e w' => e = .returned (.pointer (some ⟨w.heap.size + 1, 0, none⟩)) ∧ Below w.heap.size w w' ∧ Sk B w' (w.heap.size + 1) [] :=
  (SkI.New_any w).mono fun _ _ ⟨H, he, hb, hi, hh, _⟩ => ⟨he, hb, H, [], hi, rfl, fun k hk => by
    simp only [own, blocks_cons, blocks_nil, List.mem_cons, List.not_mem_nil, or_false] at hk
    rcases hk with rfl | rfl <;> omega⟩

theorem Put_st (B L : Nat) (rows : List Row) (key : ByteArray) (v s : Int) (w : World) (h : Sk B w L rows) (hB : B ≤ w.heap.size) (hlen : rows.length ≤ 999999) :
    Calls Try.prog 30 #[.pointer (some ⟨L, 0, none⟩), .string key, .int .i64 v, .int .i64 s] w fun e w' => e = .returned (.bool (okS s)) ∧
      Sk B w' L (if okS s = true then putR key v s.toNat rows else rows) ∧ Turns (Of w [57, 60] B) w w' := by
  obtain ⟨H, l, h⟩ := h
  by_cases hs : 1 ≤ s ∧ s ≤ 16
  · have hok : okS s = true := by simp [okS, hs]
    rw [hok, if_pos rfl]
    obtain ⟨m, rfl⟩ := Int.eq_ofNat_of_zero_le (show 0 ≤ s by omega)
    rw [Int.toNat_natCast]
    have hk := rows_keys h key
    cases hx : seek Rf.It.k key rows with
    | some x =>
      obtain ⟨N, hN, hNe⟩ := seek_rows_some h hx
      obtain ⟨r, hr, hNk⟩ := seek_some ndk hN
      have hsp := lo_hi ndk key l
      rw [hr] at hsp
      refine (SkI.Put_old L H N l (lo ndk key l) r key v m w h.is (by omega) (by omega) hsp.symm hN).mono fun e w' ⟨he, hi', ht⟩ => ⟨he, ⟨H, _, hi', ?_, ?_⟩, ?_⟩
      · have hget := (Rf.seek_get hx).1
        have hlen2 : (lo Rf.It.k key rows).length = (lo ndk key l).length := by
          have := congrArg List.length hk.1
          simpa using this.symm
        unfold putR
        rw [hx]
        have e1 : rows.map enc = (lo ndk key l).map Nd.i ++ N.i :: r.map Nd.i := by
          rw [← h.rows, ← congrArg (List.map Nd.i) hsp]; simp
        show _ = (rows.set (lo Rf.It.k key rows).length ⟨x.k, v, x.s⟩).map enc
        rw [List.map_set, e1, hlen2]
        rw [List.set_append_right _ _ (by simp)]
        simp [enc, Nd.put, hNe]
      · intro k hk2
        have : k ∈ own L H l := by
          rw [← hsp]
          unfold own at hk2 ⊢
          simpa using hk2
        exact h.base k this
      · refine ht.mono fun k _ hk2 => ?_
        subst hk2
        refine own_kind h ?_
        unfold own
        exact List.mem_cons_of_mem _ (mem_blocks (List.mem_cons_of_mem _ (seek_mem ndk hN).1))
    | none =>
      have hN := seek_rows_none h hx
      refine (SkI.Put_new L H l (lo ndk key l) (hi ndk key l) key v m w h.is (by omega) (by omega) (lo_hi ndk key l).symm hN (lo_below ndk) (hi_above ndk h.is.srt) (by rw [h.length]; omega)).mono
        fun e w' ⟨he, b, hb, hi', ht⟩ => ⟨he, ⟨H, _, hi', ?_, ?_⟩, ?_⟩
      · unfold putR
        rw [hx]
        simp [hk.1, hk.2.1, enc]
      · intro k hk2
        have hcase : k = b ∨ k ∈ own L H l := by
          have hsp := lo_hi ndk key l
          unfold own at hk2 ⊢
          rw [← hsp]
          simp only [blocks_cons, blocks_append, List.mem_cons, List.mem_append] at hk2 ⊢
          rcases hk2 with h1 | h1 | h1 | h1 | h1
          · exact .inr (.inl h1)
          · exact .inr (.inr (.inl h1))
          · exact .inr (.inr (.inr (.inl h1)))
          · exact .inl h1
          · exact .inr (.inr (.inr (.inr h1)))
        rcases hcase with rfl | hk3
        · omega
        · exact h.base k hk3
      · refine ht.mono fun k _ hk2 => own_kind h ?_
        have hsp := lo_hi ndk key l
        unfold own at hk2 ⊢
        rw [← hsp]
        simp only [blocks_cons, blocks_append, List.mem_cons, List.mem_append] at hk2 ⊢
        rcases hk2 with h1 | h1 | h1
        · exact .inl h1
        · exact .inr (.inl h1)
        · exact .inr (.inr (.inl h1))
  · have hok : okS s = false := by simp only [okS, decide_eq_false_iff_not]; exact hs
    rw [hok]
    refine (SkI.Put_out L H l key v s w h.is (by omega)).mono fun e w' ⟨he, hw⟩ => ?_
    subst hw
    exact ⟨he, ⟨H, l, h⟩, Turns.refl _ _⟩

theorem Drop_st (B L : Nat) (rows : List Row) (key : ByteArray) (w : World) (h : Sk B w L rows) (hlen : rows.length ≤ 1000000) :
    Calls Try.prog 31 #[.pointer (some ⟨L, 0, none⟩), .string key] w fun e w' => e = .returned (.bool (seek Rf.It.k key rows).isSome) ∧
      Sk B w' L (dropR key rows) ∧ Turns (Of w [57, 60] B) w w' := by
  obtain ⟨H, l, h⟩ := h
  have hk := rows_keys h key
  cases hx : seek Rf.It.k key rows with
  | some x =>
    obtain ⟨N, hN, hNe⟩ := seek_rows_some h hx
    obtain ⟨r, hr, hNk⟩ := seek_some ndk hN
    have hsp := lo_hi ndk key l
    have hab := hi_above (key := key) ndk h.is.srt
    rw [hr] at hsp hab
    refine (SkI.Drop_some L H N l (lo ndk key l) r key w h.is hsp.symm hN (lo_below ndk) hab (by rw [h.length]; exact hlen)).mono fun e w' ⟨he, hi', ht⟩ => ⟨he, ⟨H, _, hi', ?_, ?_⟩, ?_⟩
    · unfold dropR
      rw [hx]
      have h2 := hk.2.1
      rw [hr] at h2
      have h3 : r.map Nd.i = (hi Rf.It.k key rows).tail.map enc := by
        have := congrArg List.tail h2
        simpa using this
      simp [hk.1, h3]
    · intro k hk2
      refine h.base k ?_
      rw [← hsp]
      unfold own at hk2 ⊢
      simp only [blocks_cons, blocks_append, List.mem_cons, List.mem_append] at hk2 ⊢
      rcases hk2 with h1 | h1 | h1 | h1
      · exact .inl h1
      · exact .inr (.inl h1)
      · exact .inr (.inr (.inl h1))
      · exact .inr (.inr (.inr (.inr h1)))
    · refine ht.mono fun k _ hk2 => own_kind h ?_
      rw [← hsp]
      unfold own at hk2 ⊢
      simp only [blocks_cons, blocks_append, List.mem_cons, List.mem_append] at hk2 ⊢
      rcases hk2 with h1 | h1 | h1
      · exact .inl h1
      · exact .inr (.inl h1)
      · exact .inr (.inr (.inl h1))
  | none =>
    refine (SkI.Drop_none L key H l w h.is (seek_rows_none h hx)).mono fun e w' ⟨he, hb⟩ => ⟨he, ?_, Turns.of_below hb⟩
    have : dropR key rows = rows := by unfold dropR; rw [hx]
    rw [this]
    exact ⟨H, l, h.keep (S := fun _ => False) (Turns.of_below hb) fun _ _ h => h⟩

/-! ### the reference's list -/
theorem mine_of {B p : Nat} {w : World} {v : Value} {rows : List Row} (h : Rf.Is B w p v rows) {k : Nat} (hk : Rf.mine p v k) : Of w [63, 67] B k := by
  rcases hk with rfl | hk
  · exact ⟨h.pB, _, by simp, kind_blk h.hdr⟩
  · rcases owns_form h.own with ⟨hv, _, _⟩ | ⟨g, cap, hv, hg, _⟩
    · rw [hv] at hk; simp [Value.ownBlock] at hk
    · rw [hv] at hk
      simp [Value.ownBlock] at hk
      subst hk
      have h2 := h.own
      rw [hv] at h2
      obtain ⟨cs, hb⟩ := owns_blk h2
      exact ⟨hg, _, by simp, kind_blk hb⟩
def Re (B : Nat) (w : World) (p : Nat) (rows : List Row) : Prop := ∃ v, Rf.Is B w p v rows
theorem Re.keep {B p : Nat} {w w' : World} {rows : List Row} (h : Re B w p rows) {S : Nat → Prop} (ht : Turns S w w') (hS : ∀ k, Of w [63, 67] B k → ¬ S k) : Re B w' p rows := by
  obtain ⟨v, h⟩ := h
  exact ⟨v, h.keep ht (hS _ (mine_of h (.inl rfl))) fun g hg => hS _ (mine_of h (.inr hg))⟩
theorem Re.below {B p : Nat} {w w' : World} {rows : List Row} (h : Re B w p rows) (ht : Below w.heap.size w w') : Re B w' p rows := h.keep (S := fun _ => False) (Turns.of_below ht) fun _ _ h => h
theorem of_ne {w : World} {ts ts' : List TypeId} {B B' k : Nat} (h : Of w ts B k) (hd : ∀ t ∈ ts, t ∉ ts') : ¬ Of w ts' B' k := by
  obtain ⟨_, t, ht, hk⟩ := h
  rintro ⟨_, t', ht', hk'⟩
  rw [hk] at hk'
  injection hk' with e
  exact hd t ht (e ▸ ht')

theorem RPut_st (B p : Nat) (rows : List Row) (key : ByteArray) (a s : Int) (w : World) (h : Re B w p rows) (hlen : rows.length ≤ 1000000) :
    Calls Try.prog 42 #[.pointer (some ⟨p, 0, none⟩), .string key, .int .i64 a, .int .i64 s] w fun e w' => e = .returned (.bool (okS s)) ∧
      Re B w' p (if okS s = true then putR key a s.toNat rows else rows) ∧ Turns (Of w [63, 67] B) w w' := by
  obtain ⟨v, h⟩ := h
  by_cases hs : 1 ≤ s ∧ s ≤ 16
  · have hok : okS s = true := by simp [okS, hs]
    rw [hok, if_pos rfl]
    obtain ⟨m, rfl⟩ := Int.eq_ofNat_of_zero_le (show 0 ≤ s by omega)
    rw [Int.toNat_natCast]
    cases hx : seek Rf.It.k key rows with
    | some x =>
      refine (Rf.Put_old B p v rows x key a m w h hlen hx (by omega) (by omega)).mono fun e w' ⟨he, hi', ht⟩ => ⟨he, ⟨v, ?_⟩, ht.mono fun k _ hk => mine_of h hk⟩
      unfold putR
      rw [hx]
      exact hi'
    | none =>
      refine (Rf.Put_new B p v rows key a m w h hlen hx (by omega) (by omega)).mono fun e w' ⟨he, v', hi', ht, _⟩ => ⟨he, ⟨v', ?_⟩, ht.mono fun k _ hk => mine_of h hk⟩
      unfold putR
      rw [hx]
      exact hi'
  · have hok : okS s = false := by simp only [okS, decide_eq_false_iff_not]; exact hs
    rw [hok]
    refine (Rf.Put_out p key a s w (by omega)).mono fun e w' ⟨he, hw⟩ => ?_
    subst hw
    exact ⟨he, ⟨v, h⟩, Turns.refl _ _⟩

theorem RDrop_st (B p : Nat) (rows : List Row) (key : ByteArray) (w : World) (h : Re B w p rows) (hlen : rows.length ≤ 1000000) :
    Calls Try.prog 41 #[.pointer (some ⟨p, 0, none⟩), .string key] w fun e w' => e = .returned (.bool (seek Rf.It.k key rows).isSome) ∧
      Re B w' p (dropR key rows) ∧ Turns (Of w [63, 67] B) w w' := by
  obtain ⟨v, h⟩ := h
  cases hx : seek Rf.It.k key rows with
  | some x =>
    obtain ⟨r, hr, _⟩ := seek_some Rf.It.k hx
    refine (Rf.Drop_some B p v rows r x key w h hlen hx hr).mono fun e w' ⟨he, v', hi', ht, _⟩ => ⟨he, ⟨v', ?_⟩, ht.mono fun k _ hk => mine_of h hk⟩
    unfold dropR
    rw [hx, hr]
    exact hi'
  | none =>
    refine (Rf.Drop_none B p v rows key w h hlen hx).mono fun e w' ⟨he, hw⟩ => ?_
    subst hw
    have : dropR key rows = rows := by unfold dropR; rw [hx]
    rw [this]
    exact ⟨he, ⟨v, h⟩, Turns.refl _ _⟩

end St
end Go.Proofs.Ytphfedkfbehigaa
