/-
  Walk: the law TableKnown: its parts joined.
-/
import Derived.Test.YtoglklldclgcbaaTbKn1
import Derived.Test.YtoglklldclgcbaaTbKn3
import Derived.Test.YtoglklldclgcbaaTbKn4
import Derived.Test.YtoglklldclgcbaaTbKn5
namespace Go.Proofs.Ytoglklldclgcbaa
open Go.RowKit Go.Shelf Sk
namespace Tb

theorem kcut : ∀ (n m : Nat) (d : Code), kput m (ktail n d) (ktail (n + m) d) = ktail n d
  | n + 1, m, .seq x y => by
    have e : n + 1 + m = (n + m) + 1 := by omega
    rw [e]
    exact kcut n m y
  | n, 0, d => by cases n <;> cases d <;> rfl
  | 0, m + 1, .seq x y => by
    have h := kcut 0 m y
    rw [Nat.zero_add] at h
    rw [Nat.zero_add]
    show Code.seq x (kput m y (ktail m y)) = Code.seq x y
    have e : ktail 0 y = y := by cases y <;> rfl
    rw [e] at h
    rw [h]
  | n, m + 1, .skip => by cases n <;> rfl
  | n, m + 1, .region _ _ _ => by cases n <;> rfl
  | n, m + 1, .cond _ _ _ => by cases n <;> rfl
  | n, m + 1, .block _ _ => by cases n <;> rfl
  | n, m + 1, .loop _ => by cases n <;> rfl
  | n, m + 1, .rangeFunc _ _ _ _ => by cases n <;> rfl
  | n, m + 1, .exit _ => by cases n <;> rfl
  | n, m + 1, .scope _ => by cases n <;> rfl
  | n, m + 1, .label _ => by cases n <;> rfl
  | n, m + 1, .goto _ => by cases n <;> rfl
  | n, m + 1, .ret => by cases n <;> rfl
  | n, m + 1, .refuse _ => by cases n <;> rfl

theorem known_walk (w : World) :
    Calls Try.prog 11 #[] w fun e w' => e = .returned (.bool true) ∧ Below w.heap.size w w' := by
  refine (callsIn_wide (n := 5)).1 ?_
  refine callsIn_of_wp_marks (c := kb) Try.func11 rfl trivial ?_ rfl
  have e0 := kcut 0 10 kb
  have e1 := kcut 10 6 kb
  have e2 := kcut 16 1 kb
  have e3 := kcut 17 2 kb
  have ez : ktail 0 kb = kb := rfl
  rw [ez] at e0
  rw [← e0]
  refine kn_1 _ _ _ w (by simp [Try.ntmps11]) (fun A1 W1 t h1 hs1 a1 a3 a9 => ?_)
  rw [← e1]
  refine kn_2 _ _ A1 w W1 _ t h1 hs1 a1 a3 a9 (fun A2 Wc W2 t2 b bu hK hbl hch hlt hup hs2 b3 b9 b11 b12 b13 b14 => ?_)
  rw [← e2]
  refine kn_3 _ _ A2 w Wc W2 _ t t2 b bu hK hbl hch hlt hup hs2 b3 b9 b11 b12 b13 b14 (fun A3 W3 D1 hbl3 hch3 hm3 hd3 hs3 c3 c9 c11 c12 c13 c14 => ?_)
  rw [← e3]
  refine kn_4 _ _ A3 Wc W3 t t2 b bu D1 hbl3 hch3 hm3 hd3 hs3 c3 c9 c11 c12 c13 c14 (fun A4 W4 bd D2 hbl4 hu4 hd4 hm1 hm2 hl2 hne hs4 d3 d9 d11 d12 d14 d16 => ?_)
  exact kn_5 A4 w Wc W4 _ t bu bd D1 D2 rfl hK hbl4 hu4 hd4 hm1 hm2 hd3 hl2 hne hs4 d3 d9 d11 d12 d14 d16

end Tb
end Go.Proofs.Ytoglklldclgcbaa
