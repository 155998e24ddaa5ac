/- Getter: the plain law. A task's place, step by step. -/
import Derived.Test.YtkhnnjeinpojkaaGtF
namespace Go.Proofs.Ytkhnnjeinpojkaa
open Go.RowKit
/-- Where a task is, in the document's words: its place, the operation that was asked last, its marks, and what it tells. -/
structure AS where
  pc : Nat
  k : Int
  a : Int
  n : Int
  id : Int
  marks : Nat
  err : Int
  tid : Int
  vec : List Int
  ttags : Int
  len : Int
def as0 : AS := ⟨0, 0, 0, 0, 0, 0, 0, 0, [], 0, 0⟩
def AS.ask (x : AS) (pc : Nat) (k a n id : Int) : AS := { x with pc := pc, k := k, a := a, n := n, id := id }
/-- A task behind an answer. -/
def AS.step (c : Tk) (cv : List Int) (x : AS) (ok : Bool) (gn gid : Int) (gvec : List Int) (gt : Int) : AS :=
  if x.pc = 0 then (if c.k = 6 then x.ask 2 2 0 0 0 else x.ask 1 1 0 0 0)
  else if x.pc = 1 then
    (if openE c.k c.kk c.ef cv c.dim ok ≠ 0 then { x with marks := x.marks + 1, err := openE c.k c.kk c.ef cv c.dim ok }.ask 9 0 0 0 0
     else if c.k = 5 then x.ask 3 18 0 0 0 else if c.k = 3 then x.ask 4 3 0 0 0 else { x with marks := x.marks + 1, err := 1 }.ask 9 0 0 0 0)
  else if x.pc = 2 then { x with marks := x.marks + 1, err := if ok then 0 else 5 }.ask 9 0 0 0 0
  else if x.pc = 3 then { x with marks := x.marks + 1, err := 0, len := gn }.ask 9 0 0 0 0
  else if x.pc = 4 then x.ask 5 6 0 (recE gn) 0
  else if x.pc = 5 then x.ask 6 15 0 0 c.id
  else if x.pc = 6 then (if ok then { x with marks := x.marks + 1, err := 0 }.ask 7 27 gn 0 0 else { x with marks := x.marks + 1, err := 3 }.ask 8 6 0 0 0)
  else if x.pc = 7 then { x with tid := gid, vec := gvec, ttags := gt }.ask 8 6 0 0 0
  else x.ask 9 0 0 0 0
def kOf (pc : Nat) : Int := if pc = 1 then 1 else if pc = 2 then 2 else if pc = 3 then 18 else if pc = 4 then 3 else if pc = 5 then 6 else if pc = 6 then 15 else if pc = 7 then 27 else if pc = 8 then 6 else 0
/-- Places that may be. -/
structure AS.Ok (x : AS) : Prop where
  pc : x.pc ≤ 9
  k : x.k = kOf x.pc
  pin : x.pc = 5 → 0 < x.n
  last : x.pc = 8 → x.n = 0
  rest : x.pc = 0 ∨ x.pc = 9 → x.a = 0 ∧ x.n = 0 ∧ x.id = 0
  marks : x.marks = if x.pc ≤ 6 then 0 else 1
  err : x.pc ≤ 6 → x.err = 0
theorem as0_ok : as0.Ok := ⟨by decide, rfl, by decide, by decide, fun _ => ⟨rfl, rfl, rfl⟩, rfl, fun _ => rfl⟩
theorem rec_pos (n : Int) : 0 < recE n := by unfold recE; split <;> omega
/-- How many steps are left at most. -/
def rem (pc : Nat) : Nat := if pc = 0 then 7 else if pc = 1 then 6 else if pc = 2 then 1 else if pc = 3 then 1 else if pc = 4 then 5 else if pc = 5 then 4 else if pc = 6 then 3 else if pc = 7 then 2 else if pc = 8 then 1 else 0
theorem ask_ok {x : AS} {pc : Nat} {k a n id : Int} (hpc : pc ≤ 9) (hk : k = kOf pc) (h5 : pc = 5 → 0 < n) (h8 : pc = 8 → n = 0) (h9 : pc = 0 ∨ pc = 9 → a = 0 ∧ n = 0 ∧ id = 0)
    (hm : x.marks = if pc ≤ 6 then 0 else 1) (he : pc ≤ 6 → x.err = 0) : (x.ask pc k a n id).Ok := ⟨hpc, hk, h5, h8, h9, hm, he⟩
theorem step_ok (c : Tk) (cv : List Int) (x : AS) (h : x.Ok) (ok : Bool) (gn gid : Int) (gvec : List Int) (gt : Int) : (x.step c cv ok gn gid gvec gt).Ok := by
  have hp := rec_pos gn
  unfold AS.step
  have hm := h.marks
  have he := h.err
  have h9 := h.pc
  repeat' split
  all_goals (refine ask_ok (by decide) (by decide) ?_ ?_ ?_ ?_ ?_ <;> (first | (intro q; first | exact hp | exact (by decide : (0:Int) = 0) | exact ⟨rfl, rfl, rfl⟩ | (exfalso; omega) | (show x.err = 0; exact he (by omega)) | skip) | skip))
  all_goals (first | (show x.marks + 1 = _; rw [hm, if_pos (by omega)]; rfl) | (show x.marks = _; rw [hm]; split <;> split <;> omega) | skip)
theorem step_rem (c : Tk) (cv : List Int) (x : AS) (h : x.Ok) (ok : Bool) (gn gid : Int) (gvec : List Int) (gt : Int) : rem (x.step c cv ok gn gid gvec gt).pc ≤ rem x.pc - 1 := by
  have h9 := h.pc
  have hc : x.pc = 0 ∨ x.pc = 1 ∨ x.pc = 2 ∨ x.pc = 3 ∨ x.pc = 4 ∨ x.pc = 5 ∨ x.pc = 6 ∨ x.pc = 7 ∨ x.pc = 8 ∨ x.pc = 9 := by omega
  unfold AS.step AS.ask
  rcases hc with q | q | q | q | q | q | q | q | q | q
  all_goals (rw [q]; simp only [if_pos, Nat.reduceEqDiff, if_false, reduceCtorEq])
  all_goals (repeat' split)
  all_goals (first | decide | (dsimp only; decide) | (exfalso; omega) | skip)
end Go.Proofs.Ytkhnnjeinpojkaa
