/- Planes: arguments, opened. -/
import Derived.Test.YtkhnnjeinpojkaaOpG
import Derived.Test.YtkhnnjeinpojkaaPmS
namespace Go.Proofs.Ytkhnnjeinpojkaa
open Go.ChangeShapes Go.WideShapes Go.ChangeAt Go.RowKit Go.Joins Go.Deep
section
variable {H : Type} {enc : TypeId × Value → H} {w : World} {fuel : Nat} {cs : List Value} {x : DataW H × List MemPlace}
theorem pc_int : Try.prog.cellsOf 3 = 1 := by kernel_rfl
theorem pc_u64 : Try.prog.cellsOf 22 = 1 := by kernel_rfl
theorem pc_i32 : Try.prog.cellsOf 21 = 1 := by kernel_rfl
theorem pc_ints : Try.prog.cellsOf 35 = 1 := by kernel_rfl
theorem pc_lists : Try.prog.cellsOf 86 = 1 := by kernel_rfl
theorem pc_i32s : Try.prog.cellsOf 23 = 1 := by kernel_rfl
theorem pc_nodes : Try.prog.cellsOf 54 = 1 := by kernel_rfl
theorem pc_item : Try.prog.cellsOf 25 = 3 := by kernel_rfl
theorem pc_node : Try.prog.cellsOf 91 = 7 := by kernel_rfl
theorem pc_plane : Try.prog.cellsOf 56 = 3 := by kernel_rfl
theorem pl7 {α : Type} {l : List α} (h : l.length = 7) : ∃ a b c d e f g, l = [a, b, c, d, e, f, g] := by
  match l, h with
  | [a, b, c, d, e, f, g], _ => exact ⟨a, b, c, d, e, f, g, rfl⟩
theorem pl3 {α : Type} {l : List α} (h : l.length = 3) : ∃ a b c, l = [a, b, c] := by
  match l, h with
  | [a, b, c], _ => exact ⟨a, b, c, rfl⟩
theorem pl1 {α : Type} {l : List α} (h : l.length = 1) : ∃ a, l = [a] := by
  match l, h with
  | [a], _ => exact ⟨a, rfl⟩
/-- An item. -/
theorem pt_item (h : DataW.trod enc Try.prog w 0 (fun _ => true) true fuel 25 cs = some x) :
    ∃ (id : Int) (v : IS) (tags : Int), cs = [.int .u64 id, v.v, .int .u64 tags] ∧ v.Raw w w.heap.size .i32 ∧ (Lit.int .u64 id).wf = true ∧ (Lit.int .u64 tags).wf = true := by
  obtain ⟨xs, m, _, _, hl, hn, hf⟩ := DataW.trod_struct Try.underlying25 h
  rw [pc_item] at hl
  obtain ⟨c0, c1, c2, rfl⟩ := pl3 hl
  have g : ∀ i, i < 3 → ∃ y, xs[i]? = some y := fun i hi => ⟨_, List.getElem?_eq_getElem (by rw [hn]; exact hi)⟩
  obtain ⟨y0, e0⟩ := g 0 (by decide)
  obtain ⟨y1, e1⟩ := g 1 (by decide)
  obtain ⟨y2, e2⟩ := g 2 (by decide)
  have h0 : DataW.trod enc Try.prog w 0 (fun _ => true) true m 22 (List.take (Try.prog.cellsOf 22) (List.drop 0 [c0, c1, c2])) = xs[0]? := hf 0 _ rfl
  rw [e0, pc_u64] at h0
  have h1 : DataW.trod enc Try.prog w 0 (fun _ => true) true m 23 (List.take (Try.prog.cellsOf 23) (List.drop 1 [c0, c1, c2])) = xs[1]? := hf 1 _ rfl
  rw [e1, pc_i32s] at h1
  have h2 : DataW.trod enc Try.prog w 0 (fun _ => true) true m 22 (List.take (Try.prog.cellsOf 22) (List.drop 2 [c0, c1, c2])) = xs[2]? := hf 2 _ rfl
  rw [e2, pc_u64] at h2
  simp only [List.drop_zero, List.drop_succ_cons, List.take_succ_cons, List.take_zero] at h0 h1 h2
  obtain ⟨id, q0, w0⟩ := tr_int Try.underlying22 h0
  obtain ⟨A, n, c, vec, q1, hr, hc, hw, hA⟩ := tr_ints Try.underlying23 Try.underlying21 pc_i32 h1
  obtain ⟨tags, q2, w2⟩ := tr_int Try.underlying22 h2
  simp only [List.cons.injEq, and_true] at q0 q1 q2
  subst q0 q1 q2
  have hm := hc.2
  unfold maxLen at hm
  exact ⟨id, ⟨A, n, c, vec⟩, tags, rfl, ⟨hA, by show n ≤ _; omega, hr, hw⟩, w0, w2⟩
/-- A node. -/
theorem pt_node (h : DataW.trod enc Try.prog w 0 (fun _ => true) true fuel 91 cs = some x) : ∃ d : ND, cs = d.cells.toList ∧ d.Raw w w.heap.size := by
  obtain ⟨xs, m, _, _, hl, hn, hf⟩ := DataW.trod_struct Try.underlying91 h
  rw [pc_node] at hl
  obtain ⟨c0, c1, c2, c3, c4, c5, c6, rfl⟩ := pl7 hl
  have g : ∀ i, i < 5 → ∃ y, xs[i]? = some y := fun i hi => ⟨_, List.getElem?_eq_getElem (by rw [hn]; exact hi)⟩
  obtain ⟨y0, e0⟩ := g 0 (by decide)
  obtain ⟨y1, e1⟩ := g 1 (by decide)
  obtain ⟨y2, e2⟩ := g 2 (by decide)
  obtain ⟨y3, e3⟩ := g 3 (by decide)
  obtain ⟨y4, e4⟩ := g 4 (by decide)
  have h0 : DataW.trod enc Try.prog w 0 (fun _ => true) true m 25 (List.take (Try.prog.cellsOf 25) (List.drop 0 [c0, c1, c2, c3, c4, c5, c6])) = xs[0]? := hf 0 _ rfl
  rw [e0, pc_item] at h0
  have h1 : DataW.trod enc Try.prog w 0 (fun _ => true) true m 3 (List.take (Try.prog.cellsOf 3) (List.drop 3 [c0, c1, c2, c3, c4, c5, c6])) = xs[1]? := hf 1 _ rfl
  rw [e1, pc_int] at h1
  have h2 : DataW.trod enc Try.prog w 0 (fun _ => true) true m 86 (List.take (Try.prog.cellsOf 86) (List.drop 4 [c0, c1, c2, c3, c4, c5, c6])) = xs[2]? := hf 2 _ rfl
  rw [e2, pc_lists] at h2
  have h3 : DataW.trod enc Try.prog w 0 (fun _ => true) true m 3 (List.take (Try.prog.cellsOf 3) (List.drop 5 [c0, c1, c2, c3, c4, c5, c6])) = xs[3]? := hf 3 _ rfl
  rw [e3, pc_int] at h3
  have h4 : DataW.trod enc Try.prog w 0 (fun _ => true) true m 3 (List.take (Try.prog.cellsOf 3) (List.drop 6 [c0, c1, c2, c3, c4, c5, c6])) = xs[4]? := hf 4 _ rfl
  rw [e4, pc_int] at h4
  simp only [List.drop_zero, List.drop_succ_cons, List.take_succ_cons, List.take_zero] at h0 h1 h2 h3 h4
  obtain ⟨id, v, tags, q0, hv, wid, _⟩ := pt_item h0
  obtain ⟨level, q1, w1⟩ := tr_int Try.underlying3 h1
  obtain ⟨LA, ln, lc, css, q2, hrs, hc, hLA, hall⟩ := tr_structs Try.underlying86 pc_ints (by decide) h2
  obtain ⟨next, q3, w3⟩ := tr_int Try.underlying3 h3
  obtain ⟨prev, q4, w4⟩ := tr_int Try.underlying3 h4
  obtain ⟨ls, rfl, hls⟩ := list_choice (f := fun l : IS => [l.v]) (Q := fun l => l.Raw w w.heap.size .i64 ∧ l.n ≤ l.c) css (fun d hd => by
    obtain ⟨m', y, hy⟩ := hall d hd
    obtain ⟨A, n, c, zs, e, hr, hcc, hw, hA⟩ := tr_ints Try.underlying35 Try.underlying3 pc_int hy
    have hm := hcc.2
    unfold maxLen at hm
    exact ⟨⟨A, n, c, zs⟩, e, ⟨hA, by show n ≤ _; omega, hr, hw⟩, hcc.1⟩)
  have hm := hc.2
  unfold maxLen at hm
  simp only [List.cons.injEq, and_true] at q0 q1 q2 q3 q4
  obtain ⟨p1, p2, p3⟩ := q0
  subst p1 p2 p3 q1 q2 q3 q4
  exact ⟨⟨id, v, tags, level, LA, ln, lc, ls, next, prev⟩, rfl, hv, hLA, by show ln ≤ _; omega, hrs, fun l hl => (hls l hl).1, wid, w1, w3, w4, fun l hl => (hls l hl).2⟩
end
section
variable {H : Type} {enc : TypeId × Value → H} {w : World} {b0 : Nat} {v : Value} {d : DataW H} {p : List MemPlace}
set_option maxRecDepth 100000 in
theorem open_plane (hv : Value.okWide Try.prog w .any b0 56 v) (h : DataW.Trod enc Try.prog w 0 (fun _ => true) true 56 v d p) :
    ∃ (A : Option Addr) (n c : Nat) (ns : List ND) (en tp : Int), v = .agg (pgL A n c en tp) ∧ PgRaw w w.heap.size A n c ns ∧ (Lit.int .i64 en).wf = true ∧ (Lit.int .i64 tp).wf = true := by
  obtain ⟨cs, rfl, hsz⟩ := okWide_struct Try.underlying56 hv
  obtain ⟨fuel, hf0⟩ := h
  have hf1 : DataW.trod enc Try.prog w 0 (fun _ => true) true fuel 56 cs.toList = some (d, p) := by simpa [Value.cells] using hf0
  obtain ⟨xs, m, _, _, hl, hn, hf⟩ := DataW.trod_struct Try.underlying56 hf1
  rw [pc_plane] at hl
  obtain ⟨c0, c1, c2, hcs⟩ := pl3 hl
  rw [hcs] at hf
  have g : ∀ i, i < 3 → ∃ y, xs[i]? = some y := fun i hi => ⟨_, List.getElem?_eq_getElem (by rw [hn]; exact hi)⟩
  obtain ⟨y0, e0⟩ := g 0 (by decide)
  obtain ⟨y1, e1⟩ := g 1 (by decide)
  obtain ⟨y2, e2⟩ := g 2 (by decide)
  have h0 : DataW.trod enc Try.prog w 0 (fun _ => true) true m 54 (List.take (Try.prog.cellsOf 54) (List.drop 0 [c0, c1, c2])) = xs[0]? := hf 0 _ rfl
  rw [e0, pc_nodes] at h0
  have h1 : DataW.trod enc Try.prog w 0 (fun _ => true) true m 3 (List.take (Try.prog.cellsOf 3) (List.drop 1 [c0, c1, c2])) = xs[1]? := hf 1 _ rfl
  rw [e1, pc_int] at h1
  have h2 : DataW.trod enc Try.prog w 0 (fun _ => true) true m 3 (List.take (Try.prog.cellsOf 3) (List.drop 2 [c0, c1, c2])) = xs[2]? := hf 2 _ rfl
  rw [e2, pc_int] at h2
  simp only [List.drop_zero, List.drop_succ_cons, List.take_succ_cons, List.take_zero] at h0 h1 h2
  obtain ⟨A, n, c, css, q0, hrs, hc, hA, hall⟩ := tr_structs Try.underlying54 pc_node (by decide) h0
  obtain ⟨en, q1, w1⟩ := tr_int Try.underlying3 h1
  obtain ⟨tp, q2, w2⟩ := tr_int Try.underlying3 h2
  obtain ⟨ns, rfl, hns⟩ := list_choice (f := fun d : ND => d.cells.toList) (Q := fun d => d.Raw w w.heap.size) css (fun d hd => by obtain ⟨m', y, hy⟩ := hall d hd; exact pt_node hy)
  have hm := hc.2
  unfold maxLen at hm
  simp only [List.cons.injEq, and_true] at q0 q1 q2
  subst q0 q1 q2
  refine ⟨A, n, c, ns, en, tp, ?_, ⟨hA, by omega, hrs, hns⟩, w1, w2⟩
  rw [← Array.toArray_toList (xs := cs), hcs]; rfl
end
end Go.Proofs.Ytkhnnjeinpojkaa
