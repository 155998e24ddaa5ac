/- Getter: the law GetterMarks: what holds of a task's place, its marks, and its pin. -/
import Derived.Test.YtkhnnjeinpojkaaGtE
namespace Go.Proofs.Ytkhnnjeinpojkaa
open Go.RowKit
/-- What is pinned, at a place. -/
def Pin (x : AS) (p : Int) : Prop := x.pc ≤ 4 ∨ x.pc = 8 ∨ x.pc = 9 → p = 0
theorem pin0 : Pin as0 0 := fun _ => rfl
theorem kOf_pin {pc : Nat} (h : pc ≤ 9) : kOf pc = 6 ↔ pc = 5 ∨ pc = 8 := by
  have hc : pc = 0 ∨ pc = 1 ∨ pc = 2 ∨ pc = 3 ∨ pc = 4 ∨ pc = 5 ∨ pc = 6 ∨ pc = 7 ∨ pc = 8 ∨ pc = 9 := by omega
  rcases hc with rfl | rfl | rfl | rfl | rfl | rfl | rfl | rfl | rfl | rfl <;> decide
/-- From where one comes to where. -/
theorem step_pcs (c : Tk) (cv : List Int) (x : AS) (h : x.Ok) (ok : Bool) (gn gid : Int) (gvec : List Int) (gt : Int) :
    (x.pc = 0 ∧ ((x.step c cv ok gn gid gvec gt).pc = 1 ∨ (x.step c cv ok gn gid gvec gt).pc = 2)) ∨ (x.pc = 1 ∧ ((x.step c cv ok gn gid gvec gt).pc = 3 ∨ (x.step c cv ok gn gid gvec gt).pc = 4 ∨ (x.step c cv ok gn gid gvec gt).pc = 9)) ∨
    ((x.pc = 2 ∨ x.pc = 3 ∨ x.pc = 8 ∨ x.pc = 9) ∧ (x.step c cv ok gn gid gvec gt).pc = 9) ∨ (x.pc = 4 ∧ (x.step c cv ok gn gid gvec gt).pc = 5) ∨ (x.pc = 5 ∧ (x.step c cv ok gn gid gvec gt).pc = 6) ∨
    (x.pc = 6 ∧ ((x.step c cv ok gn gid gvec gt).pc = 7 ∨ (x.step c cv ok gn gid gvec gt).pc = 8)) ∨ (x.pc = 7 ∧ (x.step c cv ok gn gid gvec gt).pc = 8) := by
  have h9 := h.pc
  have hc : x.pc = 0 ∨ x.pc = 1 ∨ x.pc = 2 ∨ x.pc = 3 ∨ x.pc = 4 ∨ x.pc = 5 ∨ x.pc = 6 ∨ x.pc = 7 ∨ x.pc = 8 ∨ x.pc = 9 := by omega
  unfold AS.step AS.ask
  rcases hc with q | q | q | q | q | q | q | q | q | q
  all_goals (rw [q]; simp only [if_pos, Nat.reduceEqDiff, if_false, reduceCtorEq])
  all_goals (repeat' split)
  all_goals (first | decide | (dsimp only; decide) | (exfalso; omega) | simp)
theorem step_pin {c : Tk} {cv : List Int} {x : AS} {ok : Bool} {gn gid : Int} {gvec : List Int} {gt : Int} {y : AS} (hs : x.step c cv ok gn gid gvec gt = y) (h : x.Ok) {p : Int} (hp : Pin x p) :
    (y.k = 6 → Pin y y.n) ∧ (y.k ≠ 6 → Pin y p) := by
  have hy : y.Ok := by rw [← hs]; exact step_ok c cv x h ok gn gid gvec gt
  have hk := hy.k
  have hq := step_pcs c cv x h ok gn gid gvec gt
  rw [hs] at hq
  have h6 := kOf_pin hy.pc
  rw [← hk] at h6
  refine ⟨fun e q => ?_, fun e q => ?_⟩
  · have := h6.1 e
    exact hy.last (by omega)
  · have hn : ¬ (y.pc = 5 ∨ y.pc = 8) := fun q => e (h6.2 q)
    exact hp (by omega)
theorem ok_end {y : AS} (h : y.Ok) : (y.pc = 9 → y.k = 0) ∧ (y.pc ≠ 9 → y.pc ≠ 0 → y.k ≠ 0) ∧ (y.pc = 9 → y.marks = 1) ∧ (y.marks = 0 ∨ y.marks = 1) := by
  have h9 := h.pc
  have hk := h.k
  have hm := h.marks
  have hc : y.pc = 0 ∨ y.pc = 1 ∨ y.pc = 2 ∨ y.pc = 3 ∨ y.pc = 4 ∨ y.pc = 5 ∨ y.pc = 6 ∨ y.pc = 7 ∨ y.pc = 8 ∨ y.pc = 9 := by omega
  rcases hc with q | q | q | q | q | q | q | q | q | q <;> rw [q] at hk hm ⊢ <;> simp [kOf] at hk hm <;> simp [hk, hm]
theorem rem_zero {pc : Nat} (h : pc ≤ 9) (h0 : rem pc = 0) : pc = 9 := by
  have hc : pc = 0 ∨ pc = 1 ∨ pc = 2 ∨ pc = 3 ∨ pc = 4 ∨ pc = 5 ∨ pc = 6 ∨ pc = 7 ∨ pc = 8 ∨ pc = 9 := by omega
  rcases hc with rfl | rfl | rfl | rfl | rfl | rfl | rfl | rfl | rfl | rfl <;> first | rfl | (revert h0; decide)
/-- The program's task at hand. -/
structure PM (w wx : World) (T : Nat) (c : Tk) (cv : List Int) (x : AS) : Prop where
  t : At wx T c x
  v1 : VV wx c.V cv
  hT : w.heap.size ≤ T
  b : Below w.heap.size w wx
section
variable {w wx wy : World} {T : Nat} {c : Tk} {cv : List Int} {x y : AS}
theorem PM.below (h : PM w wx T c cv x) (hb : Below wx.heap.size wx wy) : PM w wy T c cv x := ⟨h.t.below hb, h.v1.below hb, h.hT, h.b.trans (hb.mono h.b.size)⟩
theorem PM.notT (h : PM w wx T c cv x) : ∀ V vec, VV wx V vec → NotAt T V := fun _ _ hv => h.t.notAt h.v1.slice hv
theorem PM.task (h : PM w wx T c cv x) (ha : At wy T c y) (ht : Tch (fun k => k = T) wx wy) : PM w wy T c cv y :=
  ⟨ha, h.v1.tch ht (h.notT _ _ h.v1) (fun _ _ q => q), h.hT, h.b.trans (ht.below h.b.size (fun k q => by rw [q]; exact h.hT))⟩
end
end Go.Proofs.Ytkhnnjeinpojkaa
