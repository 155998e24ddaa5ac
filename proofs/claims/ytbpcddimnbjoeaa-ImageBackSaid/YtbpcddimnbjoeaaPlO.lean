/- Planes: neighbours, walked. -/
import Derived.Test.YtbpcddimnbjoeaaPlN
import Derived.Shelf.Abstract
import Derived.Deep.CutRange
namespace Go.Proofs.Ytbpcddimnbjoeaa
open Go.RowKit Go.Maps Go.ChangeMaps Go.MapKept
theorem node_one (d : ND) : d.cells.all (·.oneCell') = true := by simp [ND.cells, IS.v, Value.oneCell']
theorem node_put (w : World) (d : ND) : (Instr.storeAt 42 (.pointer (some ⟨w.heap.size, 0, none⟩)) (.agg d.cells)).run Try.prog (w.alloc (.cells nd0.cells 42)) = .ok () ((w.alloc (.cells nd0.cells 42)).setCells w.heap.size 0 d.cells.toList) :=
  row_store (Blk.new w 42 nd0.cells) d.cells rfl nodeT (node_one d)
theorem below_setCells {B g : Nat} {a w : World} (h : Below B a w) (hB : B ≤ a.heap.size) (hg : B ≤ g) (vs : List Value) (o : Nat) : Below B a (w.setCells g o vs) :=
  h.trans ((Tch.setCells (S := fun k => k = g) (g := g) rfl vs o w (Tch.refl _ w)).below (Nat.le_trans hB (by have := h.size; omega)) (fun k q => by omega))
theorem node_bel (w : World) (d : ND) : Below w.heap.size w ((w.alloc (.cells nd0.cells 42)).setCells w.heap.size 0 d.cells.toList) := below_setCells (bel_box _ _) (Nat.le_refl _) (Nat.le_refl _) _ _
theorem node_at (w : World) (d : ND) : Blk ((w.alloc (.cells nd0.cells 42)).setCells w.heap.size 0 d.cells.toList) w.heap.size 42 d.cells := by
  have := Blk.put (Blk.new w 42 nd0.cells) d.cells.toList rfl
  simpa using this
theorem nd0_lit : nd0.cells = #[.int .u64 0, .slice none 0 0, .int .u64 0, .int .i64 0, .slice none 0 0, .int .i64 0, .int .i64 0] := rfl
/-- What a node's list reads as. -/
theorem nd_list {w : World} {B : Nat} {d : ND} (h : d.At w B) {i : Nat} (hi : i < d.ln) : ∃ b o, d.LA = some ⟨b, o, none⟩ ∧ b < B ∧ w.cell? ⟨b, o + i, none⟩ = some (lsAt d i).v ∧ (lsAt d i).At w B .i64 := by
  obtain ⟨b, o, l, e, hb, hl, hc, ha⟩ := h.list hi
  have : lsAt d i = l := by unfold lsAt; rw [List.getD_eq_getElem?_getD, hl]; rfl
  rw [this]
  exact ⟨b, o, e, hb, hc, ha⟩
end Go.Proofs.Ytbpcddimnbjoeaa
