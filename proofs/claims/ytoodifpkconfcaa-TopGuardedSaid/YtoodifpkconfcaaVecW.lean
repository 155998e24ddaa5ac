/- Walks of package vec: what is right, distances, products. -/
import Derived.Test.YtoodifpkconfcaaVecP
import Derived.Lib.MinMax
import Derived.Laws.Externs
import Derived.Deep.DeepCutAuto
namespace Go.Proofs.Ytoodifpkconfcaa
open Go.RowKit
/-- Why a vector is not right; 0: it is. -/
def vchkE (xs : List Int) (dim : Int) : Int := if chkV xs dim then 0 else 1
/-- What Dist goes through: the longer one first. -/
def DistIn (w : World) (L : Nat) (D : Nat) (a b : Value) : Prop := ∃ (A : Option Addr) (m c : Nat) (xs : List Int) (B : Option Addr) (m' c' : Nat) (ys : List Int), a = .slice A m c ∧ b = .slice B m' c' ∧ m' ≤ m ∧ m ≤ 9223372036854775807 ∧
  Rd w L A m (xs.map (.int .i32)) ∧ Rd w L B m' (ys.map (.int .i32)) ∧ (∀ z ∈ xs, -2147483648 ≤ z ∧ z ≤ 2147483647) ∧ (∀ z ∈ ys, -2147483648 ≤ z ∧ z ≤ 2147483647) ∧ distE xs ys = D
theorem bd_ig {zs : List Int} (h : ∀ z ∈ zs, -2147483648 ≤ z ∧ z ≤ 2147483647) (k : Nat) : -2147483648 ≤ ig zs k ∧ ig zs k ≤ 2147483647 := by
  rcases Nat.lt_or_ge k zs.length with q | q
  · refine h _ ?_; rw [ig, List.getD_eq_getElem?_getD, List.getElem?_eq_getElem q]; simp
  · rw [ig, List.getD_eq_getElem?_getD, List.getElem?_eq_none q]; exact ⟨by decide, by decide⟩
theorem dot_wrap (a b : Int) : IntKind.i64.wrap (IntKind.i64.wrap a + b) = IntKind.i64.wrap (a + b) := by
  rw [IntKind.wrap_i64, IntKind.wrap_i64, IntKind.wrap_i64]; omega
theorem prod_bd {x y : Int} (hx : -2147483648 ≤ x ∧ x ≤ 2147483647) (hy : -2147483648 ≤ y ∧ y ≤ 2147483647) : -4611686018427387904 ≤ x * y ∧ x * y ≤ 4611686018427387904 := by
  have h : (x * y).natAbs ≤ 2147483648 * 2147483648 := by rw [Int.natAbs_mul]; exact Nat.mul_le_mul (by omega) (by omega)
  omega
end Go.Proofs.Ytoodifpkconfcaa
