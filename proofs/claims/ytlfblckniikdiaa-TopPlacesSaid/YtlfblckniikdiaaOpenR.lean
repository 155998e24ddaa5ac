/- An argument that is a struct of two ints, opened. -/
import Derived.Test.YtlfblckniikdiaaOpen
import Derived.Lib.SmallJoins
namespace Go.Proofs.Ytlfblckniikdiaa
open Go.ChangeShapes Go.WideShapes Go.ChangeAt Go.RowKit Go.Joins Go.Deep
variable {H : Type} {enc : TypeId × Value → H} {P : Program} {w : World} {b0 : Nat}
theorem open_two {t : TypeId} {f0 f1 : Field} {v : Value} {d : DataW H} {p : List MemPlace} (hs : P.underlying t = some (.struct #[f0, f1])) (hone : oneCellFields P #[f0, f1] = true) (hC : P.cellsOf t = 2)
    (h0 : P.underlying f0.type = some (.int .i64)) (h1 : P.underlying f1.type = some (.int .i64))
    (hv : Value.okWide P w .any b0 t v) (h : DataW.Trod enc P w 0 (fun _ => true) true t v d p) :
    ∃ s g : Int, v = .agg #[.int .i64 s, .int .i64 g] ∧ (-9223372036854775808 ≤ s ∧ s ≤ 9223372036854775807) ∧ (-9223372036854775808 ≤ g ∧ g ≤ 9223372036854775807) := by
  obtain ⟨v0, v1, y0, y1, n, rfl, _, _, r0, r1⟩ := open_agg2 hs hone hC hv h
  obtain ⟨s, e0, _, w0⟩ := DataW.trod_int h0 r0
  obtain ⟨g, e1, _, w1⟩ := DataW.trod_int h1 r1
  simp only [List.cons.injEq, and_true] at e0 e1
  subst e0 e1
  exact ⟨s, g, rfl, range_i64 w0, range_i64 w1⟩
end Go.Proofs.Ytlfblckniikdiaa
