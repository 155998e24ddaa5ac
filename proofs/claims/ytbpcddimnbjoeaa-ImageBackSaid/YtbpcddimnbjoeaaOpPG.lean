/- Arguments opened field by field; planes, with what tags may be. Merged of OpG OpP OpPT. -/
import Derived.Test.YtbpcddimnbjoeaaOpen
import Derived.Test.YtbpcddimnbjoeaaRs
import Derived.Lib.SmallJoins
import Derived.Test.YtbpcddimnbjoeaaPmS
namespace Go.Proofs.Ytbpcddimnbjoeaa
open Go.ChangeShapes Go.WideShapes Go.ChangeAt Go.RowKit Go.Joins Go.Deep
section
variable {H : Type} {enc : TypeId × Value → H} {P : Program} {w : World} {k : IntKind} {t e : TypeId} {fuel : Nat} {cs : List Value} {x : DataW H × List MemPlace}
theorem tr_int (ht : P.underlying t = some (.int k)) (h : DataW.trod enc P w 0 (fun _ => true) true fuel t cs = some x) : ∃ z, cs = [.int k z] ∧ (Lit.int k z).wf = true := by
  obtain ⟨z, e0, _, w0⟩ := DataW.trod_int ht h
  exact ⟨z, e0, w0⟩
theorem tr_ints (ht : P.underlying t = some (.slice e)) (he : P.underlying e = some (.int k)) (hc : P.cellsOf e = 1) (h : DataW.trod enc P w 0 (fun _ => true) true fuel t cs = some x) :
    ∃ (A : Option Addr) (n c : Nat) (zs : List Int), cs = [.slice A n c] ∧ Rd w w.heap.size A n (zs.map (.int k)) ∧ (n ≤ c ∧ c ≤ maxLen) ∧ (∀ z ∈ zs, (Lit.int k z).wf = true) ∧ (A = none → n = 0 ∧ c = 0) := by
  rcases open_ints ht he hc h with ⟨rfl, _⟩ | ⟨a, n, c, zs, rfl, _, hl, hm, hz, _, hcell, hwz⟩
  · exact ⟨none, 0, 0, [], rfl, Rd.nil_, ⟨by omega, by omega⟩, by simp, fun _ => ⟨rfl, rfl⟩⟩
  · have hz' : zs.length = c := by simpa using hz
    refine ⟨some a, n, c, zs.take n, rfl, ⟨by simp; omega, fun hn => ?_⟩, ⟨hl, hm⟩, fun z hmem => hwz z (List.mem_of_mem_take hmem), fun h => by cases h⟩
    obtain ⟨b, o, rfl, hcell'⟩ := ints_at hcell (by omega)
    have hlt : b < w.heap.size := block_lt_of_cell (a := ⟨b, o + 0, none⟩) (hcell' 0 (by omega))
    refine ⟨b, o, rfl, hlt, fun j u hu => ?_⟩
    rw [List.getElem?_map, List.getElem?_take] at hu
    split at hu
    · rename_i hj
      rw [hcell' j (by omega), ← hu, List.getElem?_eq_getElem (by omega : j < zs.length), List.getD_eq_getElem?_getD, List.getElem?_eq_getElem (by omega : j < zs.length)]
      rfl
    · simp at hu
theorem tr_structs {sz : Nat} (ht : P.underlying t = some (.slice e)) (hC : P.cellsOf e = sz) (hsz : 0 < sz) (h : DataW.trod enc P w 0 (fun _ => true) true fuel t cs = some x) :
    ∃ (A : Option Addr) (n c : Nat) (css : List (List Value)), cs = [.slice A n c] ∧ Rs w w.heap.size A n sz css ∧ (n ≤ c ∧ c ≤ maxLen) ∧ (A = none → n = 0 ∧ c = 0) ∧ ∀ d ∈ css, ∃ m y, DataW.trod enc P w 0 (fun _ => true) true m e d = some y := by
  rcases DataW.trod_slice ht h with ⟨rfl, _⟩ | ⟨a, n, c, elems, rest, m, _, rfl, _, _, hl, hm, he, hel, _, _⟩
  · exact ⟨none, 0, 0, [], rfl, Rs.nil_, ⟨by omega, by omega⟩, fun _ => ⟨rfl, rfl⟩, by simp⟩
  · have hall : ∀ i, i < n → ∃ d, (∀ j, j < sz → w.cell? ((a.add (i * sz)).add j) = d[j]?) ∧ d.length = sz ∧ ∃ y, DataW.trod enc P w 0 (fun _ => true) true m e d = some y := by
      intro i hi
      have hb := hel i hi
      rw [List.getElem?_eq_getElem (by omega), hC] at hb
      obtain ⟨d, hd, htr⟩ := Option.bind_eq_some_iff.1 hb
      obtain ⟨_, hlen, hce⟩ := World.cells?_some hd
      exact ⟨d, hce, hlen, _, htr⟩
    obtain ⟨css, hcl, hcs⟩ : ∃ css : List (List Value), css.length = n ∧ ∀ i d, css[i]? = some d → i < n ∧ (∀ j, j < sz → w.cell? ((a.add (i * sz)).add j) = d[j]?) ∧ d.length = sz ∧ ∃ y, DataW.trod enc P w 0 (fun _ => true) true m e d = some y := by
      clear he hel h hl
      revert hall
      generalize n = n'
      intro hall
      induction n' with
      | zero => exact ⟨[], rfl, by simp⟩
      | succ q ih =>
        obtain ⟨css, hl, hc⟩ := ih (fun i hi => hall i (by omega))
        obtain ⟨d, hd⟩ := hall q (by omega)
        refine ⟨css ++ [d], by simp [hl], fun i d' hi => ?_⟩
        by_cases hlt : i < q
        · rw [List.getElem?_append_left (by omega)] at hi
          have := hc i d' hi
          exact ⟨by omega, this.2⟩
        · rw [List.getElem?_append_right (by omega), hl] at hi
          have hi0 : i - q = 0 := by
            by_cases h0 : i - q = 0
            · exact h0
            · rw [List.getElem?_eq_none (by simp; omega)] at hi; cases hi
          obtain rfl : i = q := by omega
          rw [hi0] at hi
          simp only [List.getElem?_cons_zero, Option.some.injEq] at hi
          subst hi
          exact ⟨by omega, hd⟩
    have hmem : ∀ d ∈ css, ∃ i : Nat, css[i]? = some d := fun d hd => by
      obtain ⟨i, hi, e⟩ := List.mem_iff_getElem.1 hd
      exact ⟨i, by rw [List.getElem?_eq_getElem hi, e]⟩
    refine ⟨some a, n, c, css, rfl, ⟨hcl, fun d hd => ?_, fun hn => ?_⟩, ⟨hl, hm⟩, (fun h => by cases h), fun d hd => ?_⟩
    · obtain ⟨i, hi⟩ := hmem d hd
      exact (hcs i d hi).2.2.1
    · obtain ⟨b, o, spot⟩ := a
      obtain ⟨d, hd, hdl, _⟩ := hall 0 hn
      have h0 := hd 0 hsz
      rw [List.getElem?_eq_getElem (by omega)] at h0
      have hspot : spot = none := by simpa [Addr.add] using World.cell?_spot h0
      subst hspot
      have hlt : b < w.heap.size := by
        rw [Addr.add_lit, Addr.add_lit] at h0
        exact World.block_lt_of_cell? _ _ h0
      refine ⟨b, o, rfl, hlt, fun i d hi j u hu => ?_⟩
      obtain ⟨_, hq, hdl, _⟩ := hcs i d hi
      have hj : j < sz := by rw [← hdl]; exact (List.getElem?_eq_some_iff.1 hu).1
      have := hq j hj
      rw [Addr.add_lit, Addr.add_lit] at this
      rw [this, hu]
    · obtain ⟨i, hi⟩ := hmem d hd
      obtain ⟨_, _, _, y, hy⟩ := hcs i d hi
      exact ⟨m, y, hy⟩
end
theorem list_choice {α β : Type} {f : β → α} {Q : β → Prop} : ∀ css : List α, (∀ c ∈ css, ∃ g, c = f g ∧ Q g) → ∃ gs : List β, css = gs.map f ∧ ∀ g ∈ gs, Q g
  | [], _ => ⟨[], rfl, by simp⟩
  | c :: css, h => by
    obtain ⟨g, rfl, hg⟩ := h c (List.mem_cons_self ..)
    obtain ⟨gs, rfl, hgs⟩ := list_choice css fun c' hc => h c' (List.mem_cons_of_mem _ hc)
    refine ⟨g :: gs, rfl, fun q hq => ?_⟩
    rcases List.mem_cons.1 hq with rfl | hq
    · exact hg
    · exact hgs q hq
section
variable {H : Type} {enc : TypeId × Value → H} {w : World} {fuel : Nat} {cs : List Value} {x : DataW H × List MemPlace}
theorem pc_int : Try.prog.cellsOf 3 = 1 := by kernel_rfl
theorem pc_u64 : Try.prog.cellsOf 36 = 1 := by kernel_rfl
theorem pc_i32 : Try.prog.cellsOf 21 = 1 := by kernel_rfl
theorem pc_ints : Try.prog.cellsOf 43 = 1 := by kernel_rfl
theorem pc_lists : Try.prog.cellsOf 40 = 1 := by kernel_rfl
theorem pc_i32s : Try.prog.cellsOf 37 = 1 := by kernel_rfl
theorem pc_nodes : Try.prog.cellsOf 22 = 1 := by kernel_rfl
theorem pc_item : Try.prog.cellsOf 39 = 3 := by kernel_rfl
theorem pc_node : Try.prog.cellsOf 42 = 7 := by kernel_rfl
theorem pc_plane : Try.prog.cellsOf 24 = 3 := by kernel_rfl
theorem pl7 {α : Type} {l : List α} (h : l.length = 7) : ∃ a b c d e f g, l = [a, b, c, d, e, f, g] := by
  match l, h with
  | [a, b, c, d, e, f, g], _ => exact ⟨a, b, c, d, e, f, g, rfl⟩
theorem pl3 {α : Type} {l : List α} (h : l.length = 3) : ∃ a b c, l = [a, b, c] := by
  match l, h with
  | [a, b, c], _ => exact ⟨a, b, c, rfl⟩
theorem pl1 {α : Type} {l : List α} (h : l.length = 1) : ∃ a, l = [a] := by
  match l, h with
  | [a], _ => exact ⟨a, rfl⟩
/-- An item. -/
theorem pt_item (h : DataW.trod enc Try.prog w 0 (fun _ => true) true fuel 39 cs = some x) :
    ∃ (id : Int) (v : IS) (tags : Int), cs = [.int .u64 id, v.v, .int .u64 tags] ∧ v.Raw w w.heap.size .i32 ∧ (Lit.int .u64 id).wf = true ∧ (Lit.int .u64 tags).wf = true := by
  obtain ⟨xs, m, _, _, hl, hn, hf⟩ := DataW.trod_struct Try.underlying39 h
  rw [pc_item] at hl
  obtain ⟨c0, c1, c2, rfl⟩ := pl3 hl
  have g : ∀ i, i < 3 → ∃ y, xs[i]? = some y := fun i hi => ⟨_, List.getElem?_eq_getElem (by rw [hn]; exact hi)⟩
  obtain ⟨y0, e0⟩ := g 0 (by decide)
  obtain ⟨y1, e1⟩ := g 1 (by decide)
  obtain ⟨y2, e2⟩ := g 2 (by decide)
  have h0 : DataW.trod enc Try.prog w 0 (fun _ => true) true m 36 (List.take (Try.prog.cellsOf 36) (List.drop 0 [c0, c1, c2])) = xs[0]? := hf 0 _ rfl
  rw [e0, pc_u64] at h0
  have h1 : DataW.trod enc Try.prog w 0 (fun _ => true) true m 37 (List.take (Try.prog.cellsOf 37) (List.drop 1 [c0, c1, c2])) = xs[1]? := hf 1 _ rfl
  rw [e1, pc_i32s] at h1
  have h2 : DataW.trod enc Try.prog w 0 (fun _ => true) true m 36 (List.take (Try.prog.cellsOf 36) (List.drop 2 [c0, c1, c2])) = xs[2]? := hf 2 _ rfl
  rw [e2, pc_u64] at h2
  simp only [List.drop_zero, List.drop_succ_cons, List.take_succ_cons, List.take_zero] at h0 h1 h2
  obtain ⟨id, q0, w0⟩ := tr_int Try.underlying36 h0
  obtain ⟨A, n, c, vec, q1, hr, hc, hw, hA⟩ := tr_ints Try.underlying37 Try.underlying21 pc_i32 h1
  obtain ⟨tags, q2, w2⟩ := tr_int Try.underlying36 h2
  simp only [List.cons.injEq, and_true] at q0 q1 q2
  subst q0 q1 q2
  have hm := hc.2
  unfold maxLen at hm
  exact ⟨id, ⟨A, n, c, vec⟩, tags, rfl, ⟨hA, by show n ≤ _; omega, hr, hw⟩, w0, w2⟩
/-- A node. -/
theorem pt_node (h : DataW.trod enc Try.prog w 0 (fun _ => true) true fuel 42 cs = some x) : ∃ d : ND, cs = d.cells.toList ∧ d.Raw w w.heap.size := by
  obtain ⟨xs, m, _, _, hl, hn, hf⟩ := DataW.trod_struct Try.underlying42 h
  rw [pc_node] at hl
  obtain ⟨c0, c1, c2, c3, c4, c5, c6, rfl⟩ := pl7 hl
  have g : ∀ i, i < 5 → ∃ y, xs[i]? = some y := fun i hi => ⟨_, List.getElem?_eq_getElem (by rw [hn]; exact hi)⟩
  obtain ⟨y0, e0⟩ := g 0 (by decide)
  obtain ⟨y1, e1⟩ := g 1 (by decide)
  obtain ⟨y2, e2⟩ := g 2 (by decide)
  obtain ⟨y3, e3⟩ := g 3 (by decide)
  obtain ⟨y4, e4⟩ := g 4 (by decide)
  have h0 : DataW.trod enc Try.prog w 0 (fun _ => true) true m 39 (List.take (Try.prog.cellsOf 39) (List.drop 0 [c0, c1, c2, c3, c4, c5, c6])) = xs[0]? := hf 0 _ rfl
  rw [e0, pc_item] at h0
  have h1 : DataW.trod enc Try.prog w 0 (fun _ => true) true m 3 (List.take (Try.prog.cellsOf 3) (List.drop 3 [c0, c1, c2, c3, c4, c5, c6])) = xs[1]? := hf 1 _ rfl
  rw [e1, pc_int] at h1
  have h2 : DataW.trod enc Try.prog w 0 (fun _ => true) true m 40 (List.take (Try.prog.cellsOf 40) (List.drop 4 [c0, c1, c2, c3, c4, c5, c6])) = xs[2]? := hf 2 _ rfl
  rw [e2, pc_lists] at h2
  have h3 : DataW.trod enc Try.prog w 0 (fun _ => true) true m 3 (List.take (Try.prog.cellsOf 3) (List.drop 5 [c0, c1, c2, c3, c4, c5, c6])) = xs[3]? := hf 3 _ rfl
  rw [e3, pc_int] at h3
  have h4 : DataW.trod enc Try.prog w 0 (fun _ => true) true m 3 (List.take (Try.prog.cellsOf 3) (List.drop 6 [c0, c1, c2, c3, c4, c5, c6])) = xs[4]? := hf 4 _ rfl
  rw [e4, pc_int] at h4
  simp only [List.drop_zero, List.drop_succ_cons, List.take_succ_cons, List.take_zero] at h0 h1 h2 h3 h4
  obtain ⟨id, v, tags, q0, hv, wid, _⟩ := pt_item h0
  obtain ⟨level, q1, w1⟩ := tr_int Try.underlying3 h1
  obtain ⟨LA, ln, lc, css, q2, hrs, hc, hLA, hall⟩ := tr_structs Try.underlying40 pc_ints (by decide) h2
  obtain ⟨next, q3, w3⟩ := tr_int Try.underlying3 h3
  obtain ⟨prev, q4, w4⟩ := tr_int Try.underlying3 h4
  obtain ⟨ls, rfl, hls⟩ := list_choice (f := fun l : IS => [l.v]) (Q := fun l => l.Raw w w.heap.size .i64 ∧ l.n ≤ l.c) css (fun d hd => by
    obtain ⟨m', y, hy⟩ := hall d hd
    obtain ⟨A, n, c, zs, e, hr, hcc, hw, hA⟩ := tr_ints Try.underlying43 Try.underlying3 pc_int hy
    have hm := hcc.2
    unfold maxLen at hm
    exact ⟨⟨A, n, c, zs⟩, e, ⟨hA, by show n ≤ _; omega, hr, hw⟩, hcc.1⟩)
  have hm := hc.2
  unfold maxLen at hm
  simp only [List.cons.injEq, and_true] at q0 q1 q2 q3 q4
  obtain ⟨p1, p2, p3⟩ := q0
  subst p1 p2 p3 q1 q2 q3 q4
  exact ⟨⟨id, v, tags, level, LA, ln, lc, ls, next, prev⟩, rfl, hv, hLA, by show ln ≤ _; omega, hrs, fun l hl => (hls l hl).1, wid, w1, w3, w4, fun l hl => (hls l hl).2⟩
end
section
variable {H : Type} {enc : TypeId × Value → H} {w : World} {b0 : Nat} {v : Value} {d : DataW H} {p : List MemPlace}
set_option maxRecDepth 100000 in
theorem open_plane (hv : Value.okWide Try.prog w .any b0 24 v) (h : DataW.Trod enc Try.prog w 0 (fun _ => true) true 24 v d p) :
    ∃ (A : Option Addr) (n c : Nat) (ns : List ND) (en tp : Int), v = .agg (pgL A n c en tp) ∧ PgRaw w w.heap.size A n c ns ∧ (Lit.int .i64 en).wf = true ∧ (Lit.int .i64 tp).wf = true := by
  obtain ⟨cs, rfl, hsz⟩ := okWide_struct Try.underlying24 hv
  obtain ⟨fuel, hf0⟩ := h
  have hf1 : DataW.trod enc Try.prog w 0 (fun _ => true) true fuel 24 cs.toList = some (d, p) := by simpa [Value.cells] using hf0
  obtain ⟨xs, m, _, _, hl, hn, hf⟩ := DataW.trod_struct Try.underlying24 hf1
  rw [pc_plane] at hl
  obtain ⟨c0, c1, c2, hcs⟩ := pl3 hl
  rw [hcs] at hf
  have g : ∀ i, i < 3 → ∃ y, xs[i]? = some y := fun i hi => ⟨_, List.getElem?_eq_getElem (by rw [hn]; exact hi)⟩
  obtain ⟨y0, e0⟩ := g 0 (by decide)
  obtain ⟨y1, e1⟩ := g 1 (by decide)
  obtain ⟨y2, e2⟩ := g 2 (by decide)
  have h0 : DataW.trod enc Try.prog w 0 (fun _ => true) true m 22 (List.take (Try.prog.cellsOf 22) (List.drop 0 [c0, c1, c2])) = xs[0]? := hf 0 _ rfl
  rw [e0, pc_nodes] at h0
  have h1 : DataW.trod enc Try.prog w 0 (fun _ => true) true m 3 (List.take (Try.prog.cellsOf 3) (List.drop 1 [c0, c1, c2])) = xs[1]? := hf 1 _ rfl
  rw [e1, pc_int] at h1
  have h2 : DataW.trod enc Try.prog w 0 (fun _ => true) true m 3 (List.take (Try.prog.cellsOf 3) (List.drop 2 [c0, c1, c2])) = xs[2]? := hf 2 _ rfl
  rw [e2, pc_int] at h2
  simp only [List.drop_zero, List.drop_succ_cons, List.take_succ_cons, List.take_zero] at h0 h1 h2
  obtain ⟨A, n, c, css, q0, hrs, hc, hA, hall⟩ := tr_structs Try.underlying22 pc_node (by decide) h0
  obtain ⟨en, q1, w1⟩ := tr_int Try.underlying3 h1
  obtain ⟨tp, q2, w2⟩ := tr_int Try.underlying3 h2
  obtain ⟨ns, rfl, hns⟩ := list_choice (f := fun d : ND => d.cells.toList) (Q := fun d => d.Raw w w.heap.size) css (fun d hd => by obtain ⟨m', y, hy⟩ := hall d hd; exact pt_node hy)
  have hm := hc.2
  unfold maxLen at hm
  simp only [List.cons.injEq, and_true] at q0 q1 q2
  subst q0 q1 q2
  refine ⟨A, n, c, ns, en, tp, ?_, ⟨hA, by omega, hrs, hns⟩, w1, w2⟩
  rw [← Array.toArray_toList (xs := cs), hcs]; rfl
end
section
variable {H : Type} {enc : TypeId × Value → H} {w : World} {fuel : Nat} {cs : List Value} {x : DataW H × List MemPlace}
/-- A node. -/
theorem pt_node_t (h : DataW.trod enc Try.prog w 0 (fun _ => true) true fuel 42 cs = some x) : ∃ d : ND, cs = d.cells.toList ∧ d.Raw w w.heap.size ∧ (Lit.int .u64 d.tags).wf = true := by
  obtain ⟨xs, m, _, _, hl, hn, hf⟩ := DataW.trod_struct Try.underlying42 h
  rw [pc_node] at hl
  obtain ⟨c0, c1, c2, c3, c4, c5, c6, rfl⟩ := pl7 hl
  have g : ∀ i, i < 5 → ∃ y, xs[i]? = some y := fun i hi => ⟨_, List.getElem?_eq_getElem (by rw [hn]; exact hi)⟩
  obtain ⟨y0, e0⟩ := g 0 (by decide)
  obtain ⟨y1, e1⟩ := g 1 (by decide)
  obtain ⟨y2, e2⟩ := g 2 (by decide)
  obtain ⟨y3, e3⟩ := g 3 (by decide)
  obtain ⟨y4, e4⟩ := g 4 (by decide)
  have h0 : DataW.trod enc Try.prog w 0 (fun _ => true) true m 39 (List.take (Try.prog.cellsOf 39) (List.drop 0 [c0, c1, c2, c3, c4, c5, c6])) = xs[0]? := hf 0 _ rfl
  rw [e0, pc_item] at h0
  have h1 : DataW.trod enc Try.prog w 0 (fun _ => true) true m 3 (List.take (Try.prog.cellsOf 3) (List.drop 3 [c0, c1, c2, c3, c4, c5, c6])) = xs[1]? := hf 1 _ rfl
  rw [e1, pc_int] at h1
  have h2 : DataW.trod enc Try.prog w 0 (fun _ => true) true m 40 (List.take (Try.prog.cellsOf 40) (List.drop 4 [c0, c1, c2, c3, c4, c5, c6])) = xs[2]? := hf 2 _ rfl
  rw [e2, pc_lists] at h2
  have h3 : DataW.trod enc Try.prog w 0 (fun _ => true) true m 3 (List.take (Try.prog.cellsOf 3) (List.drop 5 [c0, c1, c2, c3, c4, c5, c6])) = xs[3]? := hf 3 _ rfl
  rw [e3, pc_int] at h3
  have h4 : DataW.trod enc Try.prog w 0 (fun _ => true) true m 3 (List.take (Try.prog.cellsOf 3) (List.drop 6 [c0, c1, c2, c3, c4, c5, c6])) = xs[4]? := hf 4 _ rfl
  rw [e4, pc_int] at h4
  simp only [List.drop_zero, List.drop_succ_cons, List.take_succ_cons, List.take_zero] at h0 h1 h2 h3 h4
  obtain ⟨id, v, tags, q0, hv, wid, wtg⟩ := pt_item h0
  obtain ⟨level, q1, w1⟩ := tr_int Try.underlying3 h1
  obtain ⟨LA, ln, lc, css, q2, hrs, hc, hLA, hall⟩ := tr_structs Try.underlying40 pc_ints (by decide) h2
  obtain ⟨next, q3, w3⟩ := tr_int Try.underlying3 h3
  obtain ⟨prev, q4, w4⟩ := tr_int Try.underlying3 h4
  obtain ⟨ls, rfl, hls⟩ := list_choice (f := fun l : IS => [l.v]) (Q := fun l => l.Raw w w.heap.size .i64 ∧ l.n ≤ l.c) css (fun d hd => by
    obtain ⟨m', y, hy⟩ := hall d hd
    obtain ⟨A, n, c, zs, e, hr, hcc, hw, hA⟩ := tr_ints Try.underlying43 Try.underlying3 pc_int hy
    have hm := hcc.2
    unfold maxLen at hm
    exact ⟨⟨A, n, c, zs⟩, e, ⟨hA, by show n ≤ _; omega, hr, hw⟩, hcc.1⟩)
  have hm := hc.2
  unfold maxLen at hm
  simp only [List.cons.injEq, and_true] at q0 q1 q2 q3 q4
  obtain ⟨p1, p2, p3⟩ := q0
  subst p1 p2 p3 q1 q2 q3 q4
  exact ⟨⟨id, v, tags, level, LA, ln, lc, ls, next, prev⟩, rfl, ⟨hv, hLA, by show ln ≤ _; omega, hrs, fun l hl => (hls l hl).1, wid, w1, w3, w4, fun l hl => (hls l hl).2⟩, wtg⟩
end
section
variable {H : Type} {enc : TypeId × Value → H} {w : World} {b0 : Nat} {v : Value} {d : DataW H} {p : List MemPlace}
set_option maxRecDepth 100000 in
theorem open_plane_t (hv : Value.okWide Try.prog w .any b0 24 v) (h : DataW.Trod enc Try.prog w 0 (fun _ => true) true 24 v d p) :
    ∃ (A : Option Addr) (n c : Nat) (ns : List ND) (en tp : Int), v = .agg (pgL A n c en tp) ∧ PgRaw w w.heap.size A n c ns ∧ (∀ d ∈ ns, (Lit.int .u64 d.tags).wf = true) ∧ (Lit.int .i64 en).wf = true ∧ (Lit.int .i64 tp).wf = true := by
  obtain ⟨cs, rfl, hsz⟩ := okWide_struct Try.underlying24 hv
  obtain ⟨fuel, hf0⟩ := h
  have hf1 : DataW.trod enc Try.prog w 0 (fun _ => true) true fuel 24 cs.toList = some (d, p) := by simpa [Value.cells] using hf0
  obtain ⟨xs, m, _, _, hl, hn, hf⟩ := DataW.trod_struct Try.underlying24 hf1
  rw [pc_plane] at hl
  obtain ⟨c0, c1, c2, hcs⟩ := pl3 hl
  rw [hcs] at hf
  have g : ∀ i, i < 3 → ∃ y, xs[i]? = some y := fun i hi => ⟨_, List.getElem?_eq_getElem (by rw [hn]; exact hi)⟩
  obtain ⟨y0, e0⟩ := g 0 (by decide)
  obtain ⟨y1, e1⟩ := g 1 (by decide)
  obtain ⟨y2, e2⟩ := g 2 (by decide)
  have h0 : DataW.trod enc Try.prog w 0 (fun _ => true) true m 22 (List.take (Try.prog.cellsOf 22) (List.drop 0 [c0, c1, c2])) = xs[0]? := hf 0 _ rfl
  rw [e0, pc_nodes] at h0
  have h1 : DataW.trod enc Try.prog w 0 (fun _ => true) true m 3 (List.take (Try.prog.cellsOf 3) (List.drop 1 [c0, c1, c2])) = xs[1]? := hf 1 _ rfl
  rw [e1, pc_int] at h1
  have h2 : DataW.trod enc Try.prog w 0 (fun _ => true) true m 3 (List.take (Try.prog.cellsOf 3) (List.drop 2 [c0, c1, c2])) = xs[2]? := hf 2 _ rfl
  rw [e2, pc_int] at h2
  simp only [List.drop_zero, List.drop_succ_cons, List.take_succ_cons, List.take_zero] at h0 h1 h2
  obtain ⟨A, n, c, css, q0, hrs, hc, hA, hall⟩ := tr_structs Try.underlying22 pc_node (by decide) h0
  obtain ⟨en, q1, w1⟩ := tr_int Try.underlying3 h1
  obtain ⟨tp, q2, w2⟩ := tr_int Try.underlying3 h2
  obtain ⟨ns, rfl, hns⟩ := list_choice (f := fun d : ND => d.cells.toList) (Q := fun d => d.Raw w w.heap.size ∧ (Lit.int .u64 d.tags).wf = true) css (fun d hd => by obtain ⟨m', y, hy⟩ := hall d hd; exact pt_node_t hy)
  have hm := hc.2
  unfold maxLen at hm
  simp only [List.cons.injEq, and_true] at q0 q1 q2
  subst q0 q1 q2
  refine ⟨A, n, c, ns, en, tp, ?_, ⟨hA, by omega, hrs, fun d hd => (hns d hd).1⟩, fun d hd => (hns d hd).2, w1, w2⟩
  rw [← Array.toArray_toList (xs := cs), hcs]; rfl
end
end Go.Proofs.Ytbpcddimnbjoeaa
