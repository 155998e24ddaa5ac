/- Walk of the law TopCutDist. -/
import Derived.Test.YtbhdkimjjopaaaaVecW
import Derived.Test.YtbhdkimjjopaaaaSub
namespace Go.Proofs.Ytbhdkimjjopaaaa
open Go.RowKit
theorem tag_has (x y : Nat) (w : World) :
    Calls Try.prog 86 #[.int .u64 x, .int .u64 y] w fun e w' => e = .returned (.bool (bits .andNot .u64 (y : Int) (x : Int) == 0)) ∧ w = w' := by
  go_enter Try.func86, Try.ntmps86
  go_wp2
  go_ret
  exact ⟨rfl, rfl⟩
theorem rd_one32 (w : World) (t : Nat) (x : Int) : Rd (w.alloc (.cells #[.int .i32 x] t)) (w.alloc (.cells #[.int .i32 x] t)).heap.size (some ⟨w.heap.size, 0, none⟩) 1 ([x].map (.int .i32)) :=
  IB.rd (g := w.heap.size) (t := t) (cs := [x]) ⟨[], by rw [heap_alloc_new]; simp⟩
set_option maxRecDepth 100000 in
set_option maxHeartbeats 1000000 in
theorem begins3_any (w : World) : Calls Try.prog 15 #[] w fun e w' => e = .returned (.bool true) ∧ Below w.heap.size w w' := by
  have h1 := Lib.hid (show (bits .andNot .u64 ((1 : Nat) : Int) ((3 : Nat) : Int) == 0) = true by decide)
  have h2 := Lib.hid (show (bits .andNot .u64 ((3 : Nat) : Int) ((1 : Nat) : Int) == 0) = false by decide)
  have c1 := fun w => tag_has 3 1 w
  have c2 := fun w => tag_has 1 3 w
  rw [h1.out] at c1
  rw [h2.out] at c2
  go_enter Try.func15, Try.ntmps15
  go_wp2_with fail
  have r1 := rd_one32 w 21 1
  obtain ⟨w1, hw1⟩ : ∃ w1, w.alloc (.cells #[.int .i32 1] 21) = w1 := ⟨_, rfl⟩
  have hs1 : w1.heap.size = w.heap.size + 1 := by rw [← hw1]; simp
  have b1 : Below w.heap.size w w1 := by rw [← hw1]; exact (Below.refl _ _).alloc (Nat.le_refl _) _
  rw [hw1] at r1
  rw [hw1, ← hs1]
  have r2 := rd_one32 w1 21 4
  have b2 : Below w1.heap.size w1 (w1.alloc (.cells #[.int .i32 4] 21)) := (Below.refl _ _).alloc (Nat.le_refl _) _
  have r3 := (r1.below b2).more b2.size
  have B2 := b1.trans (b2.mono b1.size)
  refine (vec_dist _ 1 1 [1] _ 1 1 [4] _ _ r3 r2 (by simp) (by simp) (by decide) (by decide)).mono ?_
  rw [show distE [1] [4] = 9 by decide]
  rintro e w' ⟨rfl, rfl⟩
  clear r1 r2 r3 b1 b2 hw1 hs1
  go_wp2_with fail
  refine (c1 _).mono ?_
  rintro e w' ⟨rfl, rfl⟩
  go_wp2_with fail
  refine (c2 _).mono ?_
  rintro e w' ⟨rfl, rfl⟩
  go_wp2_with fail
  go_ret
  exact ⟨rfl, B2⟩
/-- A right vector: its sums stay small. -/
theorem chk_open {xs : List Int} {dim : Int} (h : chkV xs dim = true) : 1 ≤ dim ∧ dim ≤ 4096 ∧ (xs.length : Int) = dim ∧ ∀ k, -16777216 ≤ ig xs k ∧ ig xs k ≤ 16777216 := by
  unfold chkV at h
  rw [Bool.and_eq_true] at h
  obtain ⟨h1, h2⟩ := h
  obtain ⟨a, b, c⟩ := of_decide_eq_true h1
  refine ⟨a, b, c, fun k => ?_⟩
  rcases Nat.lt_or_ge k xs.length with q | q
  · have hm : ig xs k ∈ xs := by rw [ig, List.getD_eq_getElem?_getD, List.getElem?_eq_getElem q]; simp
    have h3 : xs.any compB = false := by simpa using h2
    have := List.any_eq_false.1 h3 _ hm
    unfold compB at this
    simp at this
    omega
  · rw [ig, List.getD_eq_getElem?_getD, List.getElem?_eq_none q]; exact ⟨by decide, by decide⟩
theorem dsq_bd {xs ys : List Int} (hx : ∀ k, -16777216 ≤ ig xs k ∧ ig xs k ≤ 16777216) (hy : ∀ k, -16777216 ≤ ig ys k ∧ ig ys k ≤ 16777216) : ∀ k, dsq xs ys k ≤ k * 1125899906842624 := by
  intro k
  induction k with
  | zero => simp [dsq]
  | succ k ih =>
    have h1 := hx k
    have h2 := hy k
    have : sqN (ig xs k) (ig ys k) ≤ 33554432 * 33554432 := sqN_le (by omega)
    rw [dsq]; omega
theorem dot_bd {xs ys : List Int} (hx : ∀ k, -16777216 ≤ ig xs k ∧ ig xs k ≤ 16777216) (hy : ∀ k, -16777216 ≤ ig ys k ∧ ig ys k ≤ 16777216) : ∀ k : Nat, -((k : Int) * 281474976710656) ≤ dotS xs ys k ∧ dotS xs ys k ≤ (k : Int) * 281474976710656 := by
  intro k
  induction k with
  | zero => simp [dotS]
  | succ k ih =>
    have h1 := hx k
    have h2 := hy k
    have h : (ig xs k * ig ys k).natAbs ≤ 16777216 * 16777216 := by rw [Int.natAbs_mul]; exact Nat.mul_le_mul (by omega) (by omega)
    rw [dotS]; omega
theorem dsq_split (xs ys : List Int) (a : Nat) : ∀ k, dsq xs ys (a + k) = dsq xs ys a + dsq (xs.drop a) (ys.drop a) k := by
  intro k
  induction k with
  | zero => rfl
  | succ k ih => rw [← Nat.add_assoc, dsq, ih, dsq, ig_drop, ig_drop, Nat.add_assoc]
theorem dot_split (xs ys : List Int) (a : Nat) : ∀ k, dotS xs ys (a + k) = dotS xs ys a + dotS (xs.drop a) (ys.drop a) k := by
  intro k
  induction k with
  | zero => simp [dotS]
  | succ k ih => rw [← Nat.add_assoc, dotS, ih, dotS, ig_drop, ig_drop, Int.add_assoc]
theorem dsq_take (xs ys : List Int) (a : Nat) : ∀ k, k ≤ a → dsq (xs.take a) (ys.take a) k = dsq xs ys k := by
  intro k
  induction k with
  | zero => intro _; rfl
  | succ k ih => intro h; rw [dsq, dsq, ih (by omega), ig_take1 (by omega), ig_take1 (by omega)]
theorem dot_take (xs ys : List Int) (a : Nat) : ∀ k, k ≤ a → dotS (xs.take a) (ys.take a) k = dotS xs ys k := by
  intro k
  induction k with
  | zero => intro _; rfl
  | succ k ih => intro h; rw [dotS, dotS, ih (by omega), ig_take1 (by omega), ig_take1 (by omega)]
/-- The law, plain: distances and products of parts add up, and stay small. -/
theorem cut_law {xs ys : List Int} {m a : Nat} (hx : chkV xs m = true) (hy : chkV ys m = true) (ha : a ≤ m) :
    distE xs ys = distE (xs.take a) (ys.take a) + distE (xs.drop a) (ys.drop a) ∧ distE xs ys < 18446744073709551616 ∧
    dotE xs ys = dotE (xs.take a) (ys.take a) + dotE (xs.drop a) (ys.drop a) ∧ -9223372036854775808 ≤ dotE xs ys ∧ dotE xs ys ≤ 9223372036854775807 := by
  obtain ⟨h1, h2, h3, h4⟩ := chk_open hx
  obtain ⟨_, _, g3, g4⟩ := chk_open hy
  have lx : xs.length = m := by omega
  have ly : ys.length = m := by omega
  have s1 := dsq_split xs ys a (m - a)
  have s2 := dot_split xs ys a (m - a)
  rw [show a + (m - a) = m by omega] at s1 s2
  have b1 := dsq_bd h4 g4 m
  have b2 := dot_bd h4 g4 m
  have b3 := dot_bd h4 g4 a
  have t1 := dsq_take xs ys a a (Nat.le_refl _)
  have t2 := dot_take xs ys a a (Nat.le_refl _)
  have wr : ∀ n : Int, -4611686018427387904 ≤ n → n ≤ 4611686018427387904 → IntKind.i64.wrap n = n := fun n _ _ => IntWalk.i64_in _ (by omega)
  have e1 : (xs.take a).length = a := by rw [List.length_take]; omega
  have e2 : (ys.take a).length = a := by rw [List.length_take]; omega
  have e3 : (xs.drop a).length = m - a := by rw [List.length_drop]; omega
  have e4 : (ys.drop a).length = m - a := by rw [List.length_drop]; omega
  unfold distE dotE
  rw [e1, e2, e3, e4, lx, ly, Nat.max_self, Nat.max_self, Nat.max_self, Nat.min_self, Nat.min_self, Nat.min_self, t1, t2]
  rw [wr (dotS xs ys m) (by omega) (by omega), wr (dotS xs ys a) (by omega) (by omega), wr (dotS (xs.drop a) (ys.drop a) (m - a)) (by omega) (by omega)]
  omega
end Go.Proofs.Ytbhdkimjjopaaaa
