/- Getter: the answers that the document gives. -/
import Derived.Test.YtkhnnjeinpojkaaGtZ
namespace Go.Proofs.Ytkhnnjeinpojkaa
open Go.RowKit
/-- The two tasks of the law, and what was told. -/
structure P28 (w0 w : World) (T U : Nat) (c1 c2 : Tk) (x1 x2 : AS) (ops : List (Nat × AS)) : Prop where
  t : At w T c1 x1
  u : At w U c2 x2
  ne : T ≠ U
  v1 : VV w c1.V []
  v2 : VV w c2.V []
  hT : w0.heap.size ≤ T
  hU : w0.heap.size ≤ U
  b : Below w0.heap.size w0 w
  ops : ∀ p ∈ ops, p.1 ≠ T ∧ p.1 ≠ U ∧ Blk w p.1 44 (opX p.2)
theorem op_bel (w : World) (y : AS) : Below w.heap.size w ((w.alloc (.cells opZ 44)).setCells w.heap.size 0 (opX y).toList) := below_put ((Below.refl _ _).alloc (Nat.le_refl _) _) (Nat.le_refl _) (Nat.le_refl _) _ _
theorem op_at (w : World) (y : AS) : Blk ((w.alloc (.cells opZ 44)).setCells w.heap.size 0 (opX y).toList) w.heap.size 44 (opX y) := (Blk.new w 44 opZ).putA _ rfl
theorem op_put (w : World) (y : AS) : (Instr.storeAt 44 (.pointer (some ⟨w.heap.size, 0, none⟩)) (.agg (opX y))).run Try.prog (w.alloc (.cells opZ 44)) = .ok () ((w.alloc (.cells opZ 44)).setCells w.heap.size 0 (opX y).toList) :=
  op_store (Blk.new w 44 opZ) rfl y.k y.a y.n y.id
theorem P28.tells {w0 w w' : World} {T U : Nat} {c1 c2 : Tk} {x1 x2 y : AS} {ops : List (Nat × AS)} (h : P28 w0 w T U c1 c2 x1 x2 ops) (ha : At w' T c1 y) (ht : Tch (fun k => k = T) w w') :
    P28 w0 ((w'.alloc (.cells opZ 44)).setCells w'.heap.size 0 (opX y).toList) T U c1 c2 y x2 ((w'.heap.size, y) :: ops) := by
  have hnT : ∀ V vec, VV w V vec → NotAt T V := fun V vec hv => h.t.notAt h.v1.slice hv
  have bl : Below w'.heap.size w' ((w'.alloc (.cells opZ 44)).setCells w'.heap.size 0 (opX y).toList) := op_bel w' y
  have hs := ht.size
  have t1 := h.t.lt
  have u1 := h.u.lt
  refine ⟨ha.below bl, (h.u.tch ht h.ne.symm hnT).below bl, h.ne, (h.v1.tch ht (hnT _ _ h.v1) (fun _ _ q => q)).below bl, (h.v2.tch ht (hnT _ _ h.v2) (fun _ _ q => q)).below bl, h.hT, h.hU, ?_, ?_⟩
  · exact h.b.trans ((ht.below (by have := h.b.size; omega) (fun k q => by rw [q]; exact h.hT)).trans (bl.mono (by have := h.b.size; omega)))
  · intro p hp
    rcases List.mem_cons.1 hp with rfl | hp
    · exact ⟨by show w'.heap.size ≠ T; omega, by show w'.heap.size ≠ U; omega, op_at w' y⟩
    · obtain ⟨n1, n2, hb⟩ := h.ops p hp
      exact ⟨n1, n2, (hb.tch ht n1).below bl (hb.tch ht n1).lt⟩
theorem P28.swap {w0 w : World} {T U : Nat} {c1 c2 : Tk} {x1 x2 : AS} {ops : List (Nat × AS)} (h : P28 w0 w T U c1 c2 x1 x2 ops) : P28 w0 w U T c2 c1 x2 x1 ops :=
  ⟨h.u, h.t, h.ne.symm, h.v2, h.v1, h.hU, h.hT, h.b, fun p hp => by obtain ⟨a, b, c⟩ := h.ops p hp; exact ⟨b, a, c⟩⟩
theorem P28.tellsU {w0 w w' : World} {T U : Nat} {c1 c2 : Tk} {x1 x2 y : AS} {ops : List (Nat × AS)} (h : P28 w0 w T U c1 c2 x1 x2 ops) (ha : At w' U c2 y) (ht : Tch (fun k => k = U) w w') :
    P28 w0 ((w'.alloc (.cells opZ 44)).setCells w'.heap.size 0 (opX y).toList) T U c1 c2 x1 y ((w'.heap.size, y) :: ops) := (h.swap.tells ha ht).swap
theorem P28.silent {w0 w w' : World} {T U : Nat} {c1 c2 : Tk} {x1 x2 y : AS} {ops : List (Nat × AS)} (h : P28 w0 w T U c1 c2 x1 x2 ops) (ha : At w' U c2 y) (ht : Tch (fun k => k = U) w w') :
    P28 w0 w' T U c1 c2 x1 y ops := by
  have hnU : ∀ V vec, VV w V vec → NotAt U V := fun V vec hv => h.u.notAt h.v2.slice hv
  refine ⟨h.t.tch ht h.ne hnU, ha, h.ne, h.v1.tch ht (hnU _ _ h.v1) (fun _ _ q => q), h.v2.tch ht (hnU _ _ h.v2) (fun _ _ q => q), h.hT, h.hU, h.b.trans (ht.below (by have := h.b.size; omega) (fun k q => by rw [q]; exact h.hU)), fun p hp => ?_⟩
  obtain ⟨n1, n2, hb⟩ := h.ops p hp
  exact ⟨n1, n2, hb.tch ht n2⟩
theorem P28.below {w0 w w' : World} {T U : Nat} {c1 c2 : Tk} {x1 x2 : AS} {ops : List (Nat × AS)} (h : P28 w0 w T U c1 c2 x1 x2 ops) (hb : Below w.heap.size w w') : P28 w0 w' T U c1 c2 x1 x2 ops :=
  ⟨h.t.below hb, h.u.below hb, h.ne, h.v1.below hb, h.v2.below hb, h.hT, h.hU, h.b.trans (hb.mono h.b.size), fun p hp => by obtain ⟨a, b, c⟩ := h.ops p hp; exact ⟨a, b, c.below hb c.lt⟩⟩
/-- The places of the first task, and of the second one. -/
def lc1 (V : Value) : Tk := ⟨5, 0, V, 0, 0, 0, 0, 1⟩
def lc2 (V : Value) : Tk := ⟨3, 4, V, 0, 0, 0, 0, 1⟩
def y1 : AS := as0.ask 1 1 0 0 0
def y2 : AS := as0.ask 3 18 0 0 0
def y3 : AS := ({ as0 with marks := 1, len := 3 } : AS).ask 9 0 0 0 0
def z2 : AS := as0.ask 4 3 0 0 0
def z3 : AS := as0.ask 5 6 0 8 0
def z4 : AS := as0.ask 6 15 0 0 4
def z5 : AS := ({ as0 with marks := 1, err := 3 } : AS).ask 8 6 0 0 0
def z6 : AS := ({ as0 with marks := 1, err := 3 } : AS).ask 9 0 0 0 0
theorem s1 (V : Value) (ok : Bool) (n : Int) : as0.step (lc1 V) [] ok n 0 [] 0 = y1 := rfl
theorem s2 (V : Value) : y1.step (lc1 V) [] false 0 0 [] 0 = y2 := rfl
theorem s3 (V : Value) (ok : Bool) : y2.step (lc1 V) [] ok 3 0 [] 0 = y3 := rfl
theorem s4 (V : Value) (ok : Bool) (n : Int) : y3.step (lc1 V) [] ok n 0 [] 0 = y3 := rfl
theorem r1 (V : Value) (ok : Bool) (n : Int) : as0.step (lc2 V) [] ok n 0 [] 0 = y1 := rfl
theorem r2 (V : Value) : y1.step (lc2 V) [] false 0 0 [] 0 = z2 := rfl
theorem r3 (V : Value) : z2.step (lc2 V) [] true 7 0 [] 0 = z3 := rfl
theorem r4 (V : Value) (ok : Bool) (n : Int) : z3.step (lc2 V) [] ok n 0 [] 0 = z4 := rfl
theorem r5 (V : Value) (n : Int) : z4.step (lc2 V) [] false n 0 [] 0 = z5 := rfl
theorem r6 (V : Value) (ok : Bool) (n : Int) : z5.step (lc2 V) [] ok n 0 [] 0 = z6 := rfl
end Go.Proofs.Ytkhnnjeinpojkaa
