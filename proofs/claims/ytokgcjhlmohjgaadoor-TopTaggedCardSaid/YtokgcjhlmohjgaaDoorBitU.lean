/- Walks of package bitset: how many; two sets put together. -/
import Derived.Test.YtokgcjhlmohjgaaDoorBitV
namespace Go.Proofs.YtokgcjhlmohjgaaDoor
open Go.RowKit
theorem lst_words {ws : List Int} {i : Nat} (_hw : ∀ z ∈ ws, Word z) : (lst (hasB ws) ((i + 1) * 64)).length = (lst (hasB ws) (i * 64)).length + popN (wg ws i) := by
  rw [lst_word, List.length_append, pop_bits]
/-- Words put together, one by one. -/
def Both (op : Nat → Nat → Nat) (xs ys : List Int) (n : Nat) (cs : List Int) (q : Nat) : Prop :=
  cs.length = q ∧ (∀ z ∈ cs, Word z) ∧ (∀ i, i < n → ig cs i = (op (wg xs i) (wg ys i) : Nat)) ∧ ∀ i, n ≤ i → ig cs i = 0
theorem ig_take {l : List Int} {k i : Nat} (h : i < k) : ig (l.take k) i = ig l i := by
  rw [ig, ig, List.getD_eq_getElem?_getD, List.getD_eq_getElem?_getD, List.getElem?_take, if_pos h]
theorem rd_word {xs : List Int} {k : Nat} (h : ∀ z ∈ xs, Word z) : ∀ z ∈ xs.take k, Word z := fun z hz => h z (List.mem_of_mem_take hz)
end Go.Proofs.YtokgcjhlmohjgaaDoor
