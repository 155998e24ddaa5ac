/- Walks of the reference of bitset: the least number; sets put together. -/
import Derived.Test.YtokgcjhlmohjgaaDoorBitQ
import Derived.Test.YtokgcjhlmohjgaaDoorBitN
namespace Go.Proofs.YtokgcjhlmohjgaaDoor
open Go.RowKit
theorem lst_bd {p : Nat → Bool} {m j : Nat} (hj : j < (lst p m).length) : ∃ y : Nat, ig (lst p m) j = y ∧ y < m ∧ p y = true := by
  have : ig (lst p m) j ∈ lst p m := by rw [ig, List.getD_eq_getElem?_getD, List.getElem?_eq_getElem hj]; simp
  obtain ⟨y, h1, h2, h3⟩ := mem_lst.1 this
  exact ⟨y, h1, h2, h3⟩
theorem lst_rise (p : Nat → Bool) : ∀ (m i j : Nat), i < j → j < (lst p m).length → ig (lst p m) i < ig (lst p m) j := by
  intro m
  induction m with
  | zero => intro i j _ hj; simp [lst] at hj
  | succ m ih =>
    intro i j hij hj
    rw [lst_succ] at hj ⊢
    cases h : p m with
    | false => rw [h] at hj; simp at hj; simpa using ih i j hij hj
    | true =>
      rw [h] at hj
      simp only [if_true, List.length_append, List.length_singleton] at hj ⊢
      have e1 : ∀ i, i < (lst p m).length → ig (lst p m ++ [(m : Int)]) i = ig (lst p m) i := fun i hi => by
        rw [ig, ig, List.getD_eq_getElem?_getD, List.getD_eq_getElem?_getD, List.getElem?_append_left hi]
      rcases Nat.lt_or_ge j (lst p m).length with q | q
      · rw [e1 i (by omega), e1 j q]; exact ih i j hij q
      · obtain rfl : j = (lst p m).length := by omega
        rw [e1 i hij]
        obtain ⟨y, hy, hlt, _⟩ := lst_bd hij
        rw [hy, ig, List.getD_eq_getElem?_getD, List.getElem?_append_right (Nat.le_refl _), Nat.sub_self]
        simp; omega
theorem lst_find {p : Nat → Bool} {m y : Nat} (hy : y < m) (hp : p y = true) : ∃ j, j < (lst p m).length ∧ ig (lst p m) j = y := by
  have h : (y : Int) ∈ lst p m := mem_lst.2 ⟨y, rfl, hy, hp⟩
  obtain ⟨j, hj, he⟩ := List.getElem_of_mem h
  exact ⟨j, hj, by rw [ig, List.getD_eq_getElem?_getD, List.getElem?_eq_getElem hj]; exact he⟩
def NextRetB (p : Nat → Bool) (n : Int) (w : World) (e : Ending) (w' : World) : Prop := ∃ x is, e = .returned (.tuple #[.int .i64 x, .bool is]) ∧ NextOK p n x is ∧ Below w.heap.size w w'
end Go.Proofs.YtokgcjhlmohjgaaDoor
