/- Arguments opened: a list of vectors. -/
import Derived.Test.YtlmgfbhgamchgaaOpG
import Derived.Test.YtlmgfbhgamchgaaTrA
namespace Go.Proofs.Ytlmgfbhgamchgaa
open Go.ChangeShapes Go.WideShapes Go.ChangeAt Go.RowKit Go.Joins Go.Deep
section
variable {H : Type} {enc : TypeId × Value → H} {w : World} {b0 : Nat} {v : Value} {d : DataW H} {p : List MemPlace}
theorem rs_rd {w : World} {B : Nat} {A : Option Addr} {n : Nat} {l : List Vc} (h : Rs w B A n 1 (l.map fun v => [v.v])) : Rd w B A n (l.map Vc.v) := by
  refine ⟨by have := h.len; simpa using this, fun hn => ?_⟩
  obtain ⟨b, o, e, hb, hc⟩ := h.2.2 hn
  refine ⟨b, o, e, hb, fun j u hu => ?_⟩
  rw [List.getElem?_map] at hu
  obtain ⟨v, hv, rfl⟩ := Option.map_eq_some_iff.1 hu
  have := hc j [v.v] (by rw [List.getElem?_map, hv]; rfl) 0 v.v rfl
  rw [Nat.mul_one, Nat.add_zero] at this
  exact this
theorem pc_i32V : Try.prog.cellsOf 21 = 1 := by kernel_rfl
theorem pc_i32sV : Try.prog.cellsOf 22 = 1 := by kernel_rfl
set_option maxRecDepth 100000 in
theorem open_vcs (hv : Value.okWide Try.prog w .any b0 34 v) (h : DataW.Trod enc Try.prog w 0 (fun _ => true) true 34 v d p) :
    ∃ (A : Option Addr) (n c : Nat) (l : List Vc), v = .slice A n c ∧ Vcs w w.heap.size A n l ∧ n ≤ c := by
  obtain ⟨A, n, c, rfl⟩ := okWide_slice Try.underlying34 hv
  obtain ⟨fuel, hf⟩ := h
  have hf' : DataW.trod enc Try.prog w 0 (fun _ => true) true fuel 34 [.slice A n c] = some (d, p) := by simpa [Value.cells] using hf
  obtain ⟨A', n', c', css, q, hrs, hc, _, hall⟩ := tr_structs Try.underlying34 pc_i32sV (by decide) hf'
  simp only [List.cons.injEq, Value.slice.injEq, and_true] at q
  obtain ⟨rfl, rfl, rfl⟩ := q
  obtain ⟨ds, rfl, hds⟩ := list_choice (f := fun d : Vc => [d.v]) (Q := fun d => d.At w w.heap.size) css (fun d' hd => by
    obtain ⟨m', y, hy⟩ := hall d' hd
    obtain ⟨A2, n2, c2, zs, rfl, hr, hc2, hw, hA⟩ := tr_ints Try.underlying22 Try.underlying21 pc_i32V hy
    have hm := hc2.2
    unfold maxLen at hm
    exact ⟨⟨A2, n2, c2, zs⟩, rfl, hA, ⟨hc2.1, by show n2 ≤ _; have := hc2.1; omega⟩, hr, fun z hz => range_i32 (hw z hz)⟩)
  exact ⟨A, n, c, ds, rfl, ⟨rs_rd hrs, hds⟩, hc.1⟩
end
end Go.Proofs.Ytlmgfbhgamchgaa
