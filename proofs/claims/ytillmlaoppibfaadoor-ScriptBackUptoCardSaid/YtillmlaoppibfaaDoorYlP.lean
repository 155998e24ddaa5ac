/- A load, as what yields in the worlds that are held. -/
import Derived.Test.YtillmlaoppibfaaDoorBase
import Derived.Shelf.Abstract
import Derived.Deep.RegionHeld
namespace Go.Proofs.YtillmlaoppibfaaDoor
open Go.RowKit
theorem yieldsIf_loadP {P : Program} {ops : Array Oper} {S : World → Prop} {o : Oper} {v : Value} {a : Act} {ty : TypeId} {p : Value} (hw : Region.wanted o (yielded ops a.tmps) = true) (x : Operand) (ho : o.op = .load ty x) (hx : a.eval x = p)
    (h : ∀ w, S w → (Instr.loadAt ty p).run P w = .ok v w) : YieldsIf P ops S o v a := by
  refine .inl ⟨hw, fun w hS => ?_⟩
  unfold execOp
  simp only [ho, hx, Sem.run_bind, Result.andThen_ok, h w hS]
  rfl
end Go.Proofs.YtillmlaoppibfaaDoor
