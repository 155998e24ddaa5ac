/- Planes: arguments, opened, with their bulk. -/
import Derived.Test.YtpbjndjbpihfmaaOpDm
namespace Go.Proofs.Ytpbjndjbpihfmaa
open Go.ChangeShapes Go.WideShapes Go.ChangeAt Go.RowKit Go.Joins Go.Deep
section
variable {H : Type} {enc : TypeId × Value → H} {w : World} {fuel : Nat} {cs : List Value} {x : DataW H × List MemPlace}
/-- A node. -/
theorem pt_node_b (hb : Rows.uptoBulk x.1 ≤ 1048576) (h : DataW.trod enc Try.prog w 0 (fun _ => true) true fuel 55 cs = some x) : ∃ d : ND, cs = d.cells.toList ∧ d.At w w.heap.size := by
  obtain ⟨xs, m, _, rfl, hl, hn, hf⟩ := DataW.trod_struct Try.underlying55 h
  rw [pc_node] at hl
  obtain ⟨c0, c1, c2, c3, c4, c5, c6, rfl⟩ := pl7 hl
  have g : ∀ i, i < 5 → ∃ y, xs[i]? = some y := fun i hi => ⟨_, List.getElem?_eq_getElem (by rw [hn]; exact hi)⟩
  obtain ⟨y0, e0⟩ := g 0 (by decide)
  obtain ⟨y1, e1⟩ := g 1 (by decide)
  obtain ⟨y2, e2⟩ := g 2 (by decide)
  obtain ⟨y3, e3⟩ := g 3 (by decide)
  obtain ⟨y4, e4⟩ := g 4 (by decide)
  have hbk : ∀ (i : Nat) (y : DataW H × List MemPlace), xs[i]? = some y → Rows.uptoBulk y.1 ≤ 1048576 := fun i y hy => by
    have h1 := bk_mem (List.mem_map_of_mem (f := (·.1)) (List.mem_of_getElem? hy))
    simp only [Rows.uptoBulk] at hb
    omega
  have h0 : DataW.trod enc Try.prog w 0 (fun _ => true) true m 50 (List.take (Try.prog.cellsOf 50) (List.drop 0 [c0, c1, c2, c3, c4, c5, c6])) = xs[0]? := hf 0 _ rfl
  rw [e0, pc_item] at h0
  have h1 : DataW.trod enc Try.prog w 0 (fun _ => true) true m 3 (List.take (Try.prog.cellsOf 3) (List.drop 3 [c0, c1, c2, c3, c4, c5, c6])) = xs[1]? := hf 1 _ rfl
  rw [e1, pc_int] at h1
  have h2 : DataW.trod enc Try.prog w 0 (fun _ => true) true m 53 (List.take (Try.prog.cellsOf 53) (List.drop 4 [c0, c1, c2, c3, c4, c5, c6])) = xs[2]? := hf 2 _ rfl
  rw [e2, pc_lists] at h2
  have h3 : DataW.trod enc Try.prog w 0 (fun _ => true) true m 3 (List.take (Try.prog.cellsOf 3) (List.drop 5 [c0, c1, c2, c3, c4, c5, c6])) = xs[3]? := hf 3 _ rfl
  rw [e3, pc_int] at h3
  have h4 : DataW.trod enc Try.prog w 0 (fun _ => true) true m 3 (List.take (Try.prog.cellsOf 3) (List.drop 6 [c0, c1, c2, c3, c4, c5, c6])) = xs[4]? := hf 4 _ rfl
  rw [e4, pc_int] at h4
  simp only [List.drop_zero, List.drop_succ_cons, List.take_succ_cons, List.take_zero] at h0 h1 h2 h3 h4
  obtain ⟨id, v, tags, q0, hv, wid, hvb⟩ := pt_item_b h0
  obtain ⟨level, q1, w1⟩ := tr_int Try.underlying3 h1
  obtain ⟨LA, ln, lc, css, q2, hrs, hc, hLA, hlnb, hall⟩ := tr_structs_b Try.underlying53 pc_ints (by decide) h2
  obtain ⟨next, q3, w3⟩ := tr_int Try.underlying3 h3
  obtain ⟨prev, q4, w4⟩ := tr_int Try.underlying3 h4
  obtain ⟨ls, rfl, hls⟩ := list_choice (f := fun l : IS => [l.v]) (Q := fun l => l.At w w.heap.size .i64 ∧ l.n ≤ l.c) css (fun d hd => by
    obtain ⟨m', y, hy, hyb⟩ := hall d hd
    obtain ⟨A, n, c, zs, e, hr, hcc, hw, hA⟩ := tr_ints Try.underlying41 Try.underlying3 pc_int hy
    subst e
    have hnl := tr_len Try.underlying41 hy
    have h2b := hbk 2 y2 e2
    exact ⟨⟨A, n, c, zs⟩, rfl, ⟨hA, by show n ≤ _; omega, hr, hw⟩, hcc.1⟩)
  have h2b := hbk 2 y2 e2
  have h0b := hbk 0 y0 e0
  simp only [List.cons.injEq, and_true] at q0 q1 q2 q3 q4
  obtain ⟨p1, p2, p3⟩ := q0
  subst p1 p2 p3 q1 q2 q3 q4
  exact ⟨⟨id, v, tags, level, LA, ln, lc, ls, next, prev⟩, rfl, ⟨hv.1, by show v.n ≤ _; omega, hv.2.2⟩, hLA, by show ln ≤ _; omega, hrs, fun l hl => (hls l hl).1, wid, w1, w3, w4, fun l hl => (hls l hl).2⟩
end
section
variable {H : Type} {enc : TypeId × Value → H} {w : World} {b0 : Nat} {v : Value} {d : DataW H} {p : List MemPlace}
set_option maxRecDepth 100000 in
theorem open_plane_b (hb : Rows.uptoBulk d ≤ 1048576) (hv : Value.okWide Try.prog w .any b0 36 v) (h : DataW.Trod enc Try.prog w 0 (fun _ => true) true 36 v d p) :
    ∃ (A : Option Addr) (n c : Nat) (ns : List ND) (en tp : Int), v = .agg (pgL A n c en tp) ∧ PgAt w w.heap.size A n c ns := by
  obtain ⟨cs, rfl, hsz⟩ := okWide_struct Try.underlying36 hv
  obtain ⟨fuel, hf0⟩ := h
  have hf1 : DataW.trod enc Try.prog w 0 (fun _ => true) true fuel 36 cs.toList = some (d, p) := by simpa [Value.cells] using hf0
  obtain ⟨xs, m, _, eqx, hl, hn, hf⟩ := DataW.trod_struct Try.underlying36 hf1
  obtain ⟨eqd, _⟩ := Prod.mk.inj eqx
  rw [eqd] at hb
  clear eqx eqd
  rw [pc_plane] at hl
  obtain ⟨c0, c1, c2, hcs⟩ := pl3 hl
  rw [hcs] at hf
  have g : ∀ i, i < 3 → ∃ y, xs[i]? = some y := fun i hi => ⟨_, List.getElem?_eq_getElem (by rw [hn]; exact hi)⟩
  obtain ⟨y0, e0⟩ := g 0 (by decide)
  obtain ⟨y1, e1⟩ := g 1 (by decide)
  obtain ⟨y2, e2⟩ := g 2 (by decide)
  have h0b : Rows.uptoBulk y0.1 ≤ 1048576 := by
    have h1 := bk_mem (List.mem_map_of_mem (f := (·.1)) (List.mem_of_getElem? e0))
    simp only [Rows.uptoBulk] at hb
    omega
  have h0 : DataW.trod enc Try.prog w 0 (fun _ => true) true m 34 (List.take (Try.prog.cellsOf 34) (List.drop 0 [c0, c1, c2])) = xs[0]? := hf 0 _ rfl
  rw [e0, pc_nodes] at h0
  have h1 : DataW.trod enc Try.prog w 0 (fun _ => true) true m 3 (List.take (Try.prog.cellsOf 3) (List.drop 1 [c0, c1, c2])) = xs[1]? := hf 1 _ rfl
  rw [e1, pc_int] at h1
  have h2 : DataW.trod enc Try.prog w 0 (fun _ => true) true m 3 (List.take (Try.prog.cellsOf 3) (List.drop 2 [c0, c1, c2])) = xs[2]? := hf 2 _ rfl
  rw [e2, pc_int] at h2
  simp only [List.drop_zero, List.drop_succ_cons, List.take_succ_cons, List.take_zero] at h0 h1 h2
  obtain ⟨A, n, c, css, q0, hrs, hc, hA, hnb, hall⟩ := tr_structs_b Try.underlying34 pc_node (by decide) h0
  obtain ⟨en, q1, w1⟩ := tr_int Try.underlying3 h1
  obtain ⟨tp, q2, w2⟩ := tr_int Try.underlying3 h2
  obtain ⟨ns, rfl, hns⟩ := list_choice (f := fun d : ND => d.cells.toList) (Q := fun d => d.At w w.heap.size) css (fun d hd => by obtain ⟨m', y, hy, hyb⟩ := hall d hd; exact pt_node_b (by omega) hy)
  simp only [List.cons.injEq, and_true] at q0 q1 q2
  subst q0 q1 q2
  refine ⟨A, n, c, ns, en, tp, ?_, ⟨hA, by omega, hrs, hns⟩⟩
  rw [← Array.toArray_toList (xs := cs), hcs]; rfl
end
end Go.Proofs.Ytpbjndjbpihfmaa
