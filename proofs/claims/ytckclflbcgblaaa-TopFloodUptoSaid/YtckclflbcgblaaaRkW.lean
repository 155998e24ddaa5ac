/- A slot's spot, for a vector. Printed by genRkW.py. -/
import Derived.Test.YtckclflbcgblaaaRkI
import Derived.Test.YtckclflbcgblaaaPlA
import Derived.Deep.CutRange
namespace Go.Proofs.Ytckclflbcgblaaa
open Go.RowKit
theorem range_i32K {n : Int} (h : (Lit.int .i32 n).wf = true) : -2147483648 ≤ n ∧ n ≤ 2147483647 := by
  simp [Lit.wf, IntKind.min, IntKind.max, IntKind.signed, IntKind.bits] at h
  exact ⟨by omega, by omega⟩
def ndI (d : ND) : ItX := ⟨d.id, d.vec, d.tags⟩
def spN (q : IS) (ns : List ND) (k : Nat) : Sp := ⟨(distE q.xs (nAt ns k).vec.xs : Nat), (nAt ns k).id, k⟩
theorem IS.At.vec {w : World} {B : Nat} {l : IS} (h : l.At w B .i32) : l.Vec w B := ⟨h.1, by have := h.2.1; omega, h.2.2.1, fun z hz => range_i32K (h.2.2.2 z hz)⟩
def spZ : Array Value := #[.int .u64 0, .int .u64 0, .int .i64 0]
theorem node_item {w : World} {b o : Nat} {d : ND} (h : w.rangeAt b o d.cells.toList) : (Instr.loadAt 32 (.pointer (some ⟨b, o, none⟩))).run Try.prog w = .ok (.agg (ndI d).cells) w :=
  range_load (xs := (ndI d).cells) (fun j v hv => h j v (by
    have hj : j < 3 := (List.getElem?_eq_some_iff.1 hv).1
    rcases (by omega : j = 0 ∨ j = 1 ∨ j = 2) with rfl | rfl | rfl <;> exact hv)) Try.underlying32 rfl itTX
end Go.Proofs.Ytckclflbcgblaaa
