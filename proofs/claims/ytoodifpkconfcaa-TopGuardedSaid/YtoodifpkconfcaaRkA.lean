/- The order in which things are found: comparisons of numbers, of hits, of spots. Printed by genRkA.py. -/
import Derived.Test.YtoodifpkconfcaaRow
import Derived.Test.YtoodifpkconfcaaRs
import Derived.Test.YtoodifpkconfcaaTch
import Derived.Test.YtoodifpkconfcaaYlP
import Derived.Deep.Draws
import Derived.Deep.RegionHeld
import Derived.Shelf.Abstract
import Derived.Great.BuildSlice
import Derived.Sort.Grow
import Derived.Deep.Cut
namespace Go.Proofs.Ytoodifpkconfcaa
open Go.RowKit
/-- Who is told by a spot: how far, whose, and where. -/
structure Sp where
  d : Int
  id : Int
  s : Int
def hitV (x : Sp) : Value := .agg #[.int .u64 x.d, .int .u64 x.id]
def spC (x : Sp) : Array Value := #[.int .u64 x.d, .int .u64 x.id, .int .i64 x.s]
def spV (x : Sp) : Value := .agg #[.int .u64 x.d, .int .u64 x.id, .int .i64 x.s]
def cmpI (x y : Int) : Int := if x < y then -1 else if y < x then 1 else 0
def ordI (a b : Sp) : Int := if cmpI a.d b.d = 0 then cmpI a.id b.id else cmpI a.d b.d
def plI (a b : Sp) : Int := if ordI a b = 0 then cmpI a.s b.s else ordI a b
/-- What is made, and drawn, and nothing else. -/
def Gw (w w' : World) : Prop := ∃ q os, w' = Go.Sort.grow (w.drewN q) os
theorem Gw.refl (w : World) : Gw w w := ⟨0, #[], by simp [Go.Sort.grow, World.drewN]⟩
theorem drewN_drewN (w : World) (p q : Nat) : (w.drewN p).drewN q = w.drewN (p + q) := by simp [World.drewN, Nat.add_assoc]
theorem grow_drewN (w : World) (os : Array Obj) (q : Nat) : (Go.Sort.grow w os).drewN q = Go.Sort.grow (w.drewN q) os := rfl
theorem Gw.trans {a b c : World} (h : Gw a b) (h' : Gw b c) : Gw a c := by
  obtain ⟨q, os, rfl⟩ := h
  obtain ⟨q', os', rfl⟩ := h'
  exact ⟨q + q', os ++ os', by rw [grow_drewN, drewN_drewN, Go.Sort.grow_grow]⟩
theorem Gw.alloc {a b : World} (h : Gw a b) (o : Obj) : Gw a (b.alloc o) := h.trans ⟨0, #[o], by rw [Go.Sort.alloc_eq_grow]; rfl⟩
theorem Gw.drewN {a b : World} (h : Gw a b) (n : Nat) : Gw a (b.drewN n) := h.trans ⟨n, #[], by rw [Go.Sort.grow_empty]⟩
theorem Gw.drew1 (w : World) : Gw w w.drew := ⟨1, #[], by rw [Go.Sort.grow_empty]; rfl⟩
theorem Gw.below {a b : World} (h : Gw a b) : Below a.heap.size a b := by
  obtain ⟨q, os, rfl⟩ := h
  exact ⟨rfl, rfl, rfl, by simp [Go.Sort.grow, World.drewN], fun k hk => (show ((a.drewN q).heap ++ os)[k]? = a.heap[k]? from Array.getElem?_append_left hk)⟩
theorem exec_loadK {w : World} {o : Oper} {a : Act} {ty : TypeId} {p v : Value} {x : Operand} (ho : o.op = .load ty x) (hx : a.eval x = p) (hr : (Instr.loadAt ty p).run Try.prog w = .ok v w) : (execOp a.eval o).run Try.prog w = .ok (.value v) w := by
  unfold execOp
  simp only [ho, hx, Sem.run_bind, hr, Result.andThen_ok]
  rfl
theorem load_u64K {w : World} {b o : Nat} {v : Int} (h : w.cell? ⟨b, o, none⟩ = some (.int .u64 v)) : (Instr.loadAt 103 (.pointer (some ⟨b, o, none⟩))).run Try.prog w = .ok (.int .u64 v) w := by
  simp [go_sem, h]
theorem load_i64K {w : World} {b o : Nat} {v : Int} (h : w.cell? ⟨b, o, none⟩ = some (.int .i64 v)) : (Instr.loadAt 3 (.pointer (some ⟨b, o, none⟩))).run Try.prog w = .ok (.int .i64 v) w := by
  simp [go_sem, h]
theorem wpAnyH_makeK {P : Program} {ops : Array Oper} {Q : Exit → Act → World → Prop} {md : Region.Mode} {S : World → Prop} {fuel : Nat} {listed : Array Bool} {a : Act} {w w' : World} {o : Oper} (i : Nat) (v : Value) (hr : Region.ready md ops listed = [i]) (ho : ops[i]? = some o) (hw : Region.wanted o (yielded ops a.tmps) = true)
    (hrun : (execOp a.eval o).run P w = .ok (.value v) w') (hS : S w') (h : wpAnyH P md ops Q S fuel (listed.setIfInBounds i true) (a.put o.dst v) w') : wpAnyH P md ops Q S (fuel + 1) listed a w := by
  refine wpAnyH_ready hr (by simp) (AllReadyH.cons ho (fun K hK => ?_) AllReadyH.nil)
  rw [if_pos hw]
  unfold Oper.wp
  rw [hrun]
  exact hK.out _ _ hS (fun _ => h)
theorem info_intK : (Try.prog.info? 3).map (fun i => (i.zero, i.size, i.bytes)) = some (some (.int .i64 0), 1, 8) := by kernel_rfl
theorem run_ints2 (w : World) (x y : Int) : (Instr.buildSlice 26 2 #[(0, .int .i64 x), (1, .int .i64 y)]).run Try.prog w = .ok (.slice (some ⟨w.heap.size, 0, none⟩) 2 2) (w.alloc (.cells #[.int .i64 x, .int .i64 y] 3)) := by
  obtain ⟨i, hi, hz, hz1, hz2⟩ := info_parts info_intK
  refine Go.run_buildSlice w _ _ 2 _ _ i (.int .i64 0) Try.underlying26 hi hz (by rw [hz1]; decide) (by rw [hz1]; decide) ?_
  rw [hz1]; kernel_rfl
theorem exec_ints2 {o : Oper} {a : Act} {x y : Int} {parts : Array (Nat × Operand)} (ho : o.op = .buildSlice 26 2 parts) (hp : (parts.map fun (i, y) => (i, a.eval y)) = #[(0, .int .i64 x), (1, .int .i64 y)]) (w : World) : (execOp a.eval o).run Try.prog w = .ok (.value (.slice (some ⟨w.heap.size, 0, none⟩) 2 2)) (w.alloc (.cells #[.int .i64 x, .int .i64 y] 3)) := by
  unfold execOp
  simp only [ho, hp, Sem.run_bind, run_ints2, Result.andThen_ok]
  rfl
set_option maxRecDepth 100000 in
theorem nan_i64 (x : Int) (w : World) : Calls Try.prog 62 #[.int .i64 x] w fun e w' => e = .returned (.bool false) ∧ w = w' := by
  have t : (x == x) = true := beq_self_eq_true _
  go_enter Try.func62, Try.ntmps62
  go_wp2_with fail
  go_ret
  exact ⟨by simp, rfl⟩
theorem ints2_newK (w : World) (t : Nat) (x y : Int) : Rd (w.alloc (.cells #[.int .i64 x, .int .i64 y] t)) (w.alloc (.cells #[.int .i64 x, .int .i64 y] t)).heap.size (some ⟨w.heap.size, 0, none⟩) 2 ([x, y].map (.int .i64)) :=
  IB.rd (g := w.heap.size) (t := t) (cs := [x, y]) ⟨[], by rw [heap_alloc_new]; simp⟩
def ahB (a b : Sp) : Bool := decide (plI a b < 0)
end Go.Proofs.Ytoodifpkconfcaa
