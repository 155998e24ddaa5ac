/- Changes, opened. -/
import Derived.Test.YthcmajeamandfaaOpG
import Derived.Test.YthcmajeamandfaaShA
namespace Go.Proofs.Ythcmajeamandfaa
open Go.ChangeShapes Go.WideShapes Go.ChangeAt Go.RowKit Go.Joins Go.Deep
section
variable {H : Type} {enc : TypeId × Value → H} {w : World} {fuel : Nat} {cs : List Value} {x : DataW H × List MemPlace}
theorem cc_bool : Try.prog.cellsOf 4 = 1 := by kernel_rfl
theorem cc_u64 : Try.prog.cellsOf 28 = 1 := by kernel_rfl
theorem cc_change : Try.prog.cellsOf 30 = 2 := by kernel_rfl
theorem tr_change (h : DataW.trod enc Try.prog w 0 (fun _ => true) true fuel 30 cs = some x) : ∃ d : Ch, cs = (chC d).toList ∧ (Lit.int .u64 d.id).wf = true := by
  obtain ⟨xs, m, _, _, hl, hn, hf⟩ := DataW.trod_struct Try.underlying30 h
  rw [cc_change] at hl
  obtain ⟨c0, c1, rfl⟩ : ∃ a b, cs = [a, b] := by
    match cs, hl with
    | [a, b], _ => exact ⟨a, b, rfl⟩
  have g : ∀ i, i < 2 → ∃ y, xs[i]? = some y := fun i hi => ⟨_, List.getElem?_eq_getElem (by rw [hn]; exact hi)⟩
  obtain ⟨y0, e0⟩ := g 0 (by decide)
  obtain ⟨y1, e1⟩ := g 1 (by decide)
  have h0 : DataW.trod enc Try.prog w 0 (fun _ => true) true m 4 (List.take (Try.prog.cellsOf 4) (List.drop 0 [c0, c1])) = xs[0]? := hf 0 _ rfl
  rw [e0, cc_bool] at h0
  have h1 : DataW.trod enc Try.prog w 0 (fun _ => true) true m 28 (List.take (Try.prog.cellsOf 28) (List.drop 1 [c0, c1])) = xs[1]? := hf 1 _ rfl
  rw [e1, cc_u64] at h1
  simp only [List.drop_zero, List.drop_succ_cons, List.take_succ_cons, List.take_zero] at h0 h1
  obtain ⟨dr, q0, _⟩ := DataW.trod_bool Try.underlying4 h0
  obtain ⟨id, q1, w1⟩ := tr_int Try.underlying28 h1
  simp only [List.cons.injEq, and_true] at q0 q1
  subst q0 q1
  exact ⟨⟨dr, id⟩, rfl, w1⟩
end
section
variable {H : Type} {enc : TypeId × Value → H} {w : World} {b0 : Nat} {v : Value} {d : DataW H} {p : List MemPlace}
set_option maxRecDepth 100000 in
theorem open_changes (hv : Value.okWide Try.prog w .any b0 22 v) (h : DataW.Trod enc Try.prog w 0 (fun _ => true) true 22 v d p) :
    ∃ (A : Option Addr) (n c : Nat) (l : List Ch), v = .slice A n c ∧ ChAt w w.heap.size A n l ∧ (∀ d ∈ l, (Lit.int .u64 d.id).wf = true) ∧ n ≤ maxLen := by
  obtain ⟨A0, n0, c0, rfl⟩ := okWide_slice Try.underlying22 hv
  obtain ⟨fuel, hf⟩ := h
  obtain ⟨A, n, c, css, e, hr, hc, hA, hall⟩ := tr_structs Try.underlying22 cc_change (by decide) hf
  simp [Value.cells] at e
  obtain ⟨rfl, rfl, rfl⟩ := e
  obtain ⟨gs, rfl, hg⟩ := list_choice (f := fun g : Ch => (chC g).toList) (Q := fun g => (Lit.int .u64 g.id).wf = true) css (fun d hd => by obtain ⟨m, y, hy⟩ := hall d hd; exact tr_change hy)
  exact ⟨_, _, _, gs, rfl, hr, hg, Nat.le_trans hc.1 hc.2⟩
end
end Go.Proofs.Ythcmajeamandfaa
