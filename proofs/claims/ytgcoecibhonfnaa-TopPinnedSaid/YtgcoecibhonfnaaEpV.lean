/- The document's clock: New, Free, Same. -/
import Derived.Test.YtgcoecibhonfnaaEpZ
import Derived.Test.YtgcoecibhonfnaaPerm
namespace Go.Proofs.Ytgcoecibhonfnaa
open Go.RowKit
/-- Whether two lists of pairs are one. -/
def same2 (xs ys : List Int) : Bool := decide (xs = ys)
theorem ext2 {xs ys : List Int} {n : Nat} (h1 : xs.length = n * 2) (h2 : ys.length = n * 2) (h : ∀ j, j < n → ig xs (j * 2) = ig ys (j * 2) ∧ ig xs (j * 2 + 1) = ig ys (j * 2 + 1)) : xs = ys := by
  refine ext_getD (h1.trans h2.symm) fun k hk => ?_
  have := h (k / 2) (by omega)
  have hm : k % 2 = 0 ∨ k % 2 = 1 := by omega
  rcases hm with hm | hm
  · rw [show k = k / 2 * 2 by omega]; exact this.1
  · rw [show k = k / 2 * 2 + 1 by omega]; exact this.2
/-- Two lists of n zeros. -/
theorem make_ints (kl kc : IntKind) (n : Nat) (hn : n ≤ 64) (w : World) :
    (Instr.makeSlice 28 (.int kl (n : Int)) (.int kc (n : Int))).run Try.prog w = .ok (.slice (some ⟨w.heap.size, 0, none⟩) n n) (w.alloc (.cells (madeCells #[.int .i64 0] n) 3)) := by
  have h : (Try.prog.info? 3).map (fun i => (i.zero.map Value.cells, i.size, i.bytes)) = some (some #[.int .i64 0], 1, 8) := by kernel_rfl
  obtain ⟨i, hi, hzz⟩ := Option.map_eq_some_iff.1 h
  simp only [Prod.mk.injEq] at hzz
  obtain ⟨hz, hs, hb⟩ := hzz
  obtain ⟨z, hz1, hz2⟩ := Option.map_eq_some_iff.1 hz
  have hr := run_make (P := Try.prog) w 28 3 i z Try.underlying28 hi hz1 kl kc n n (by omega) (Int.le_refl _) (by rw [hb]; omega) (by omega)
  simp only [Int.toNat_natCast, hs, hz2, Nat.mul_one] at hr
  exact hr
end Go.Proofs.Ytgcoecibhonfnaa
