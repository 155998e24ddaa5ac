/- Getter: calls and answers, opened. -/
import Derived.Test.YtkhnnjeinpojkaaOpG
import Derived.Test.YtkhnnjeinpojkaaGtA
namespace Go.Proofs.Ytkhnnjeinpojkaa
open Go.ChangeShapes Go.WideShapes Go.ChangeAt Go.RowKit Go.Joins Go.Deep
section
variable {H : Type} {enc : TypeId × Value → H} {w : World} {fuel : Nat} {cs : List Value} {x : DataW H × List MemPlace}
theorem cells_int : Try.prog.cellsOf 3 = 1 := by kernel_rfl
theorem cells_bool : Try.prog.cellsOf 4 = 1 := by kernel_rfl
theorem cells_u64 : Try.prog.cellsOf 22 = 1 := by kernel_rfl
theorem cells_i32 : Try.prog.cellsOf 21 = 1 := by kernel_rfl
theorem cells_ints : Try.prog.cellsOf 35 = 1 := by kernel_rfl
theorem cells_i32s : Try.prog.cellsOf 23 = 1 := by kernel_rfl
theorem cells_item : Try.prog.cellsOf 25 = 3 := by kernel_rfl
theorem cells_call : Try.prog.cellsOf 27 = 7 := by kernel_rfl
theorem cells_got : Try.prog.cellsOf 42 = 7 := by kernel_rfl
theorem list7 {α : Type} {l : List α} (h : l.length = 7) : ∃ a b c d e f g, l = [a, b, c, d, e, f, g] := by
  match l, h with
  | [a, b, c, d, e, f, g], _ => exact ⟨a, b, c, d, e, f, g, rfl⟩
theorem list3 {α : Type} {l : List α} (h : l.length = 3) : ∃ a b c, l = [a, b, c] := by
  match l, h with
  | [a, b, c], _ => exact ⟨a, b, c, rfl⟩
/-- An item. -/
theorem tr_item (h : DataW.trod enc Try.prog w 0 (fun _ => true) true fuel 25 cs = some x) :
    ∃ (id : Int) (A : Option Addr) (n c : Nat) (vec : List Int) (tags : Int), cs = [.int .u64 id, .slice A n c, .int .u64 tags] ∧ GV w w.heap.size A n c vec ∧ (n ≤ c ∧ c ≤ maxLen) := by
  obtain ⟨xs, m, _, _, hl, hn, hf⟩ := DataW.trod_struct Try.underlying25 h
  rw [cells_item] at hl
  obtain ⟨c0, c1, c2, rfl⟩ := list3 hl
  have g : ∀ i, i < 3 → ∃ y, xs[i]? = some y := fun i hi => ⟨_, List.getElem?_eq_getElem (by rw [hn]; exact hi)⟩
  obtain ⟨y0, e0⟩ := g 0 (by decide)
  obtain ⟨y1, e1⟩ := g 1 (by decide)
  obtain ⟨y2, e2⟩ := g 2 (by decide)
  have h0 : DataW.trod enc Try.prog w 0 (fun _ => true) true m 22 (List.take (Try.prog.cellsOf 22) (List.drop 0 [c0, c1, c2])) = xs[0]? := hf 0 _ rfl
  rw [e0, cells_u64] at h0
  have h1 : DataW.trod enc Try.prog w 0 (fun _ => true) true m 23 (List.take (Try.prog.cellsOf 23) (List.drop 1 [c0, c1, c2])) = xs[1]? := hf 1 _ rfl
  rw [e1, cells_i32s] at h1
  have h2 : DataW.trod enc Try.prog w 0 (fun _ => true) true m 22 (List.take (Try.prog.cellsOf 22) (List.drop 2 [c0, c1, c2])) = xs[2]? := hf 2 _ rfl
  rw [e2, cells_u64] at h2
  simp only [List.drop_zero, List.drop_succ_cons, List.take_succ_cons, List.take_zero] at h0 h1 h2
  obtain ⟨id, q0, _⟩ := tr_int Try.underlying22 h0
  obtain ⟨A, n, c, vec, q1, hr, hc, _, hA⟩ := tr_ints Try.underlying23 Try.underlying21 cells_i32 h1
  obtain ⟨tags, q2, _⟩ := tr_int Try.underlying22 h2
  simp only [List.cons.injEq, and_true] at q0 q1 q2
  subst q0 q1 q2
  exact ⟨id, A, n, c, vec, tags, rfl, ⟨hA, hr⟩, hc⟩
/-- A call. -/
theorem tr_call (h : DataW.trod enc Try.prog w 0 (fun _ => true) true fuel 27 cs = some x) :
    ∃ (k id : Int) (A : Option Addr) (n c : Nat) (vec : List Int) (tags kk ef dr : Int), cs = (callL k id (.slice A n c) tags kk ef dr).toList ∧ GV w w.heap.size A n c vec ∧ (n ≤ c ∧ c ≤ maxLen) := by
  obtain ⟨xs, m, _, _, hl, hn, hf⟩ := DataW.trod_struct Try.underlying27 h
  rw [cells_call] at hl
  obtain ⟨c0, c1, c2, c3, c4, c5, c6, rfl⟩ := list7 hl
  have g : ∀ i, i < 5 → ∃ y, xs[i]? = some y := fun i hi => ⟨_, List.getElem?_eq_getElem (by rw [hn]; exact hi)⟩
  obtain ⟨y0, e0⟩ := g 0 (by decide)
  obtain ⟨y1, e1⟩ := g 1 (by decide)
  obtain ⟨y2, e2⟩ := g 2 (by decide)
  obtain ⟨y3, e3⟩ := g 3 (by decide)
  obtain ⟨y4, e4⟩ := g 4 (by decide)
  have h0 : DataW.trod enc Try.prog w 0 (fun _ => true) true m 3 (List.take (Try.prog.cellsOf 3) (List.drop 0 [c0, c1, c2, c3, c4, c5, c6])) = xs[0]? := hf 0 _ rfl
  rw [e0, cells_int] at h0
  have h1 : DataW.trod enc Try.prog w 0 (fun _ => true) true m 25 (List.take (Try.prog.cellsOf 25) (List.drop 1 [c0, c1, c2, c3, c4, c5, c6])) = xs[1]? := hf 1 _ rfl
  rw [e1, cells_item] at h1
  have h2 : DataW.trod enc Try.prog w 0 (fun _ => true) true m 3 (List.take (Try.prog.cellsOf 3) (List.drop 4 [c0, c1, c2, c3, c4, c5, c6])) = xs[2]? := hf 2 _ rfl
  rw [e2, cells_int] at h2
  have h3 : DataW.trod enc Try.prog w 0 (fun _ => true) true m 3 (List.take (Try.prog.cellsOf 3) (List.drop 5 [c0, c1, c2, c3, c4, c5, c6])) = xs[3]? := hf 3 _ rfl
  rw [e3, cells_int] at h3
  have h4 : DataW.trod enc Try.prog w 0 (fun _ => true) true m 22 (List.take (Try.prog.cellsOf 22) (List.drop 6 [c0, c1, c2, c3, c4, c5, c6])) = xs[4]? := hf 4 _ rfl
  rw [e4, cells_u64] at h4
  simp only [List.drop_zero, List.drop_succ_cons, List.take_succ_cons, List.take_zero] at h0 h1 h2 h3 h4
  obtain ⟨k, q0, _⟩ := tr_int Try.underlying3 h0
  obtain ⟨id, A, n, c, vec, tags, q1, hr, hc⟩ := tr_item h1
  obtain ⟨kk, q2, _⟩ := tr_int Try.underlying3 h2
  obtain ⟨ef, q3, _⟩ := tr_int Try.underlying3 h3
  obtain ⟨dr, q4, _⟩ := tr_int Try.underlying22 h4
  simp only [List.cons.injEq, and_true] at q0 q1 q2 q3 q4
  obtain ⟨p1, p2, p3⟩ := q1
  subst q0 p1 p2 p3 q2 q3 q4
  exact ⟨k, id, A, n, c, vec, tags, kk, ef, dr, rfl, hr, hc⟩
/-- An answer. -/
theorem tr_got (h : DataW.trod enc Try.prog w 0 (fun _ => true) true fuel 42 cs = some x) : ∃ g : GD, cs = g.cells.toList ∧ GV w w.heap.size g.VA g.vn g.vc g.vec := by
  obtain ⟨xs, m, _, _, hl, hn, hf⟩ := DataW.trod_struct Try.underlying42 h
  rw [cells_got] at hl
  obtain ⟨c0, c1, c2, c3, c4, c5, c6, rfl⟩ := list7 hl
  have g : ∀ i, i < 5 → ∃ y, xs[i]? = some y := fun i hi => ⟨_, List.getElem?_eq_getElem (by rw [hn]; exact hi)⟩
  obtain ⟨y0, e0⟩ := g 0 (by decide)
  obtain ⟨y1, e1⟩ := g 1 (by decide)
  obtain ⟨y2, e2⟩ := g 2 (by decide)
  obtain ⟨y3, e3⟩ := g 3 (by decide)
  obtain ⟨y4, e4⟩ := g 4 (by decide)
  have h0 : DataW.trod enc Try.prog w 0 (fun _ => true) true m 4 (List.take (Try.prog.cellsOf 4) (List.drop 0 [c0, c1, c2, c3, c4, c5, c6])) = xs[0]? := hf 0 _ rfl
  rw [e0, cells_bool] at h0
  have h1 : DataW.trod enc Try.prog w 0 (fun _ => true) true m 3 (List.take (Try.prog.cellsOf 3) (List.drop 1 [c0, c1, c2, c3, c4, c5, c6])) = xs[1]? := hf 1 _ rfl
  rw [e1, cells_int] at h1
  have h2 : DataW.trod enc Try.prog w 0 (fun _ => true) true m 3 (List.take (Try.prog.cellsOf 3) (List.drop 2 [c0, c1, c2, c3, c4, c5, c6])) = xs[2]? := hf 2 _ rfl
  rw [e2, cells_int] at h2
  have h3 : DataW.trod enc Try.prog w 0 (fun _ => true) true m 35 (List.take (Try.prog.cellsOf 35) (List.drop 3 [c0, c1, c2, c3, c4, c5, c6])) = xs[3]? := hf 3 _ rfl
  rw [e3, cells_ints] at h3
  have h4 : DataW.trod enc Try.prog w 0 (fun _ => true) true m 25 (List.take (Try.prog.cellsOf 25) (List.drop 4 [c0, c1, c2, c3, c4, c5, c6])) = xs[4]? := hf 4 _ rfl
  rw [e4, cells_item] at h4
  simp only [List.drop_zero, List.drop_succ_cons, List.take_succ_cons, List.take_zero] at h0 h1 h2 h3 h4
  obtain ⟨ok, q0, _⟩ := DataW.trod_bool Try.underlying4 h0
  obtain ⟨n, q1, _⟩ := tr_int Try.underlying3 h1
  obtain ⟨m', q2, _⟩ := tr_int Try.underlying3 h2
  obtain ⟨LA, ll, lc, _, q3, _⟩ := tr_ints Try.underlying35 Try.underlying3 cells_int h3
  obtain ⟨id, A, n', c, vec, tags, q4, hr, hc⟩ := tr_item h4
  simp only [List.cons.injEq, and_true] at q0 q1 q2 q3 q4
  obtain ⟨p1, p2, p3⟩ := q4
  subst q0 q1 q2 q3 p1 p2 p3
  exact ⟨⟨ok, n, m', LA, ll, lc, id, A, n', c, vec, tags⟩, rfl, hr⟩
end
section
variable {H : Type} {enc : TypeId × Value → H} {w : World} {b0 : Nat} {v : Value} {d : DataW H} {p : List MemPlace}
set_option maxRecDepth 100000 in
theorem open_call (hv : Value.okWide Try.prog w .any b0 27 v) (h : DataW.Trod enc Try.prog w 0 (fun _ => true) true 27 v d p) :
    ∃ (k id : Int) (A : Option Addr) (n c : Nat) (vec : List Int) (tags kk ef dr : Int), v = .agg (callL k id (.slice A n c) tags kk ef dr) ∧ GV w w.heap.size A n c vec ∧ (n ≤ c ∧ c ≤ maxLen) := by
  obtain ⟨cs, rfl, hsz⟩ := okWide_struct Try.underlying27 hv
  obtain ⟨fuel, hf⟩ := h
  obtain ⟨k, id, A, n, c, vec, tags, kk, ef, dr, e, hr, hc⟩ := tr_call (by simpa [Value.cells] using hf)
  exact ⟨k, id, A, n, c, vec, tags, kk, ef, dr, by rw [← Array.toArray_toList (xs := cs), e], hr, hc⟩
set_option maxRecDepth 100000 in
theorem open_gots (hv : Value.okWide Try.prog w .any b0 28 v) (h : DataW.Trod enc Try.prog w 0 (fun _ => true) true 28 v d p) :
    ∃ (A : Option Addr) (n c : Nat) (gs : List GD), v = .slice A n c ∧ Gots w w.heap.size A n gs ∧ (n ≤ c ∧ c ≤ maxLen) ∧ (A = none → n = 0 ∧ c = 0) := by
  obtain ⟨A0, n0, c0, rfl⟩ := okWide_slice Try.underlying28 hv
  obtain ⟨fuel, hf⟩ := h
  obtain ⟨A, n, c, css, e, hr, hc, hA, hall⟩ := tr_structs Try.underlying28 cells_got (by decide) hf
  simp [Value.cells] at e
  obtain ⟨rfl, rfl, rfl⟩ := e
  obtain ⟨gs, rfl, hg⟩ := list_choice (f := fun g : GD => g.cells.toList) (Q := fun g => GV w w.heap.size g.VA g.vn g.vc g.vec) css (fun d hd => by obtain ⟨m, y, hy⟩ := hall d hd; exact tr_got hy)
  exact ⟨_, _, _, gs, rfl, ⟨hr, hg⟩, hc, hA⟩
end
end Go.Proofs.Ytkhnnjeinpojkaa
