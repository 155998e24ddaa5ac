/- Planes and vectors as arguments, with their bulk. -/
import Derived.Test.YtpcbfoddlpgdjaaOpen
import Derived.Test.YtpcbfoddlpgdjaaRkI
import Derived.Lib.SmallJoins
namespace Go.Proofs.Ytpcbfoddlpgdjaa
open Go.ChangeShapes Go.WideShapes Go.ChangeAt Go.RowKit Go.Joins Go.Deep
section
variable {H : Type} {enc : TypeId × Value → H} {P : Program} {w : World} {k : IntKind} {t e : TypeId} {fuel : Nat} {cs : List Value} {x : DataW H × List MemPlace}
theorem tr_intX (ht : P.underlying t = some (.int k)) (h : DataW.trod enc P w 0 (fun _ => true) true fuel t cs = some x) : ∃ z, cs = [.int k z] ∧ (Lit.int k z).wf = true := by
  obtain ⟨z, e0, _, w0⟩ := DataW.trod_int ht h
  exact ⟨z, e0, w0⟩
theorem tr_intsX (ht : P.underlying t = some (.slice e)) (he : P.underlying e = some (.int k)) (hc : P.cellsOf e = 1) (h : DataW.trod enc P w 0 (fun _ => true) true fuel t cs = some x) :
    ∃ (A : Option Addr) (n c : Nat) (zs : List Int), cs = [.slice A n c] ∧ Rd w w.heap.size A n (zs.map (.int k)) ∧ (n ≤ c ∧ c ≤ maxLen) ∧ (∀ z ∈ zs, (Lit.int k z).wf = true) ∧ (A = none → n = 0 ∧ c = 0) := by
  rcases open_ints ht he hc h with ⟨rfl, _⟩ | ⟨a, n, c, zs, rfl, _, hl, hm, hz, _, hcell, hwz⟩
  · exact ⟨none, 0, 0, [], rfl, Rd.nil_, ⟨by omega, by omega⟩, by simp, fun _ => ⟨rfl, rfl⟩⟩
  · have hz' : zs.length = c := by simpa using hz
    refine ⟨some a, n, c, zs.take n, rfl, ⟨by simp; omega, fun hn => ?_⟩, ⟨hl, hm⟩, fun z hmem => hwz z (List.mem_of_mem_take hmem), fun h => by cases h⟩
    obtain ⟨b, o, rfl, hcell'⟩ := ints_at hcell (by omega)
    have hlt : b < w.heap.size := block_lt_of_cell (a := ⟨b, o + 0, none⟩) (hcell' 0 (by omega))
    refine ⟨b, o, rfl, hlt, fun j u hu => ?_⟩
    rw [List.getElem?_map, List.getElem?_take] at hu
    split at hu
    · rename_i hj
      rw [hcell' j (by omega), ← hu, List.getElem?_eq_getElem (by omega : j < zs.length), List.getD_eq_getElem?_getD, List.getElem?_eq_getElem (by omega : j < zs.length)]
      rfl
    · simp at hu
theorem tr_structsX {sz : Nat} (ht : P.underlying t = some (.slice e)) (hC : P.cellsOf e = sz) (hsz : 0 < sz) (h : DataW.trod enc P w 0 (fun _ => true) true fuel t cs = some x) :
    ∃ (A : Option Addr) (n c : Nat) (css : List (List Value)), cs = [.slice A n c] ∧ Rs w w.heap.size A n sz css ∧ (n ≤ c ∧ c ≤ maxLen) ∧ (A = none → n = 0 ∧ c = 0) ∧ ∀ d ∈ css, ∃ m y, DataW.trod enc P w 0 (fun _ => true) true m e d = some y := by
  rcases DataW.trod_slice ht h with ⟨rfl, _⟩ | ⟨a, n, c, elems, rest, m, _, rfl, _, _, hl, hm, he, hel, _, _⟩
  · exact ⟨none, 0, 0, [], rfl, Rs.nil_, ⟨by omega, by omega⟩, fun _ => ⟨rfl, rfl⟩, by simp⟩
  · have hall : ∀ i, i < n → ∃ d, (∀ j, j < sz → w.cell? ((a.add (i * sz)).add j) = d[j]?) ∧ d.length = sz ∧ ∃ y, DataW.trod enc P w 0 (fun _ => true) true m e d = some y := by
      intro i hi
      have hb := hel i hi
      rw [List.getElem?_eq_getElem (by omega), hC] at hb
      obtain ⟨d, hd, htr⟩ := Option.bind_eq_some_iff.1 hb
      obtain ⟨_, hlen, hce⟩ := World.cells?_some hd
      exact ⟨d, hce, hlen, _, htr⟩
    obtain ⟨css, hcl, hcs⟩ : ∃ css : List (List Value), css.length = n ∧ ∀ i d, css[i]? = some d → i < n ∧ (∀ j, j < sz → w.cell? ((a.add (i * sz)).add j) = d[j]?) ∧ d.length = sz ∧ ∃ y, DataW.trod enc P w 0 (fun _ => true) true m e d = some y := by
      clear he hel h hl
      revert hall
      generalize n = n'
      intro hall
      induction n' with
      | zero => exact ⟨[], rfl, by simp⟩
      | succ q ih =>
        obtain ⟨css, hl, hc⟩ := ih (fun i hi => hall i (by omega))
        obtain ⟨d, hd⟩ := hall q (by omega)
        refine ⟨css ++ [d], by simp [hl], fun i d' hi => ?_⟩
        by_cases hlt : i < q
        · rw [List.getElem?_append_left (by omega)] at hi
          have := hc i d' hi
          exact ⟨by omega, this.2⟩
        · rw [List.getElem?_append_right (by omega), hl] at hi
          have hi0 : i - q = 0 := by
            by_cases h0 : i - q = 0
            · exact h0
            · rw [List.getElem?_eq_none (by simp; omega)] at hi; cases hi
          obtain rfl : i = q := by omega
          rw [hi0] at hi
          simp only [List.getElem?_cons_zero, Option.some.injEq] at hi
          subst hi
          exact ⟨by omega, hd⟩
    have hmem : ∀ d ∈ css, ∃ i : Nat, css[i]? = some d := fun d hd => by
      obtain ⟨i, hi, e⟩ := List.mem_iff_getElem.1 hd
      exact ⟨i, by rw [List.getElem?_eq_getElem hi, e]⟩
    refine ⟨some a, n, c, css, rfl, ⟨hcl, fun d hd => ?_, fun hn => ?_⟩, ⟨hl, hm⟩, (fun h => by cases h), fun d hd => ?_⟩
    · obtain ⟨i, hi⟩ := hmem d hd
      exact (hcs i d hi).2.2.1
    · obtain ⟨b, o, spot⟩ := a
      obtain ⟨d, hd, hdl, _⟩ := hall 0 hn
      have h0 := hd 0 hsz
      rw [List.getElem?_eq_getElem (by omega)] at h0
      have hspot : spot = none := by simpa [Addr.add] using World.cell?_spot h0
      subst hspot
      have hlt : b < w.heap.size := by
        rw [Addr.add_lit, Addr.add_lit] at h0
        exact World.block_lt_of_cell? _ _ h0
      refine ⟨b, o, rfl, hlt, fun i d hi j u hu => ?_⟩
      obtain ⟨_, hq, hdl, _⟩ := hcs i d hi
      have hj : j < sz := by rw [← hdl]; exact (List.getElem?_eq_some_iff.1 hu).1
      have := hq j hj
      rw [Addr.add_lit, Addr.add_lit] at this
      rw [this, hu]
    · obtain ⟨i, hi⟩ := hmem d hd
      obtain ⟨_, _, _, y, hy⟩ := hcs i d hi
      exact ⟨m, y, hy⟩
end
theorem list_choiceX {α β : Type} {f : β → α} {Q : β → Prop} : ∀ css : List α, (∀ c ∈ css, ∃ g, c = f g ∧ Q g) → ∃ gs : List β, css = gs.map f ∧ ∀ g ∈ gs, Q g
  | [], _ => ⟨[], rfl, by simp⟩
  | c :: css, h => by
    obtain ⟨g, rfl, hg⟩ := h c (List.mem_cons_self ..)
    obtain ⟨gs, rfl, hgs⟩ := list_choiceX css fun c' hc => h c' (List.mem_cons_of_mem _ hc)
    refine ⟨g :: gs, rfl, fun q hq => ?_⟩
    rcases List.mem_cons.1 hq with rfl | hq
    · exact hg
    · exact hgs q hq
section
variable {H : Type} {enc : TypeId × Value → H} {w : World} {fuel : Nat} {cs : List Value} {x : DataW H × List MemPlace}
theorem pcx_u64 : Try.prog.cellsOf 31 = 1 := by kernel_rfl
theorem pcx_i32 : Try.prog.cellsOf 21 = 1 := by kernel_rfl
theorem pcx_i32s : Try.prog.cellsOf 22 = 1 := by kernel_rfl
theorem pcx_item : Try.prog.cellsOf 45 = 3 := by kernel_rfl
theorem plx3 {α : Type} {l : List α} (h : l.length = 3) : ∃ a b c, l = [a, b, c] := by
  match l, h with
  | [a, b, c], _ => exact ⟨a, b, c, rfl⟩
set_option maxRecDepth 100000 in
/-- An item. -/
theorem ptx_item (h : DataW.trod enc Try.prog w 0 (fun _ => true) true fuel 45 cs = some x) :
    ∃ (id : Int) (v : IS) (tags : Int), cs = [.int .u64 id, v.v, .int .u64 tags] ∧ v.Vec w w.heap.size ∧ (Lit.int .u64 id).wf = true ∧ (Lit.int .u64 tags).wf = true := by
  obtain ⟨xs, m, _, _, hl, hn, hf⟩ := DataW.trod_struct Try.underlying45 h
  rw [pcx_item] at hl
  obtain ⟨c0, c1, c2, rfl⟩ := plx3 hl
  have g : ∀ i, i < 3 → ∃ y, xs[i]? = some y := fun i hi => ⟨_, List.getElem?_eq_getElem (by rw [hn]; exact hi)⟩
  obtain ⟨y0, e0⟩ := g 0 (by decide)
  obtain ⟨y1, e1⟩ := g 1 (by decide)
  obtain ⟨y2, e2⟩ := g 2 (by decide)
  have h0 : DataW.trod enc Try.prog w 0 (fun _ => true) true m 31 (List.take (Try.prog.cellsOf 31) (List.drop 0 [c0, c1, c2])) = xs[0]? := hf 0 _ rfl
  rw [e0, pcx_u64] at h0
  have h1 : DataW.trod enc Try.prog w 0 (fun _ => true) true m 22 (List.take (Try.prog.cellsOf 22) (List.drop 1 [c0, c1, c2])) = xs[1]? := hf 1 _ rfl
  rw [e1, pcx_i32s] at h1
  have h2 : DataW.trod enc Try.prog w 0 (fun _ => true) true m 31 (List.take (Try.prog.cellsOf 31) (List.drop 2 [c0, c1, c2])) = xs[2]? := hf 2 _ rfl
  rw [e2, pcx_u64] at h2
  simp only [List.drop_zero, List.drop_succ_cons, List.take_succ_cons, List.take_zero] at h0 h1 h2
  obtain ⟨id, q0, w0⟩ := tr_intX Try.underlying31 h0
  obtain ⟨A, n, c, vec, q1, hr, hc, hw, hA⟩ := tr_intsX Try.underlying22 Try.underlying21 pcx_i32 h1
  obtain ⟨tags, q2, w2⟩ := tr_intX Try.underlying31 h2
  simp only [List.cons.injEq, and_true] at q0 q1 q2
  subst q0 q1 q2
  have hm := hc.2
  unfold maxLen at hm
  exact ⟨id, ⟨A, n, c, vec⟩, tags, rfl, ⟨hA, by show n ≤ _; omega, hr, fun z hz => range_i32 (hw z hz)⟩, w0, w2⟩
end
section
variable {H : Type} {enc : TypeId × Value → H} {w : World} {b0 : Nat} {v : Value} {d : DataW H} {p : List MemPlace}
set_option maxRecDepth 100000 in
theorem open_itxc (hv : Value.okWide Try.prog w .any b0 23 v) (h : DataW.Trod enc Try.prog w 0 (fun _ => true) true 23 v d p) :
    ∃ (A : Option Addr) (n c : Nat) (ds : List ItX), v = .slice A n c ∧ Its w w.heap.size A n ds ∧ n ≤ c ∧ c ≤ maxLen := by
  obtain ⟨A, n, c, rfl⟩ := okWide_slice Try.underlying23 hv
  obtain ⟨fuel, hf⟩ := h
  have hf' : DataW.trod enc Try.prog w 0 (fun _ => true) true fuel 23 [.slice A n c] = some (d, p) := by simpa [Value.cells] using hf
  obtain ⟨A', n', c', css, q, hrs, hc, _, hall⟩ := tr_structsX Try.underlying23 pcx_item (by decide) hf'
  simp only [List.cons.injEq, Value.slice.injEq, and_true] at q
  obtain ⟨rfl, rfl, rfl⟩ := q
  obtain ⟨ds, rfl, hds⟩ := list_choiceX (f := fun d : ItX => d.cells.toList) (Q := fun d => d.vec.Vec w w.heap.size) css (fun d' hd => by
    obtain ⟨m', y, hy⟩ := hall d' hd
    obtain ⟨id, v, tags, rfl, hv, hid, _⟩ := ptx_item hy
    exact ⟨⟨id, v, tags⟩, rfl, hv⟩)
  exact ⟨A, n, c, ds, rfl, ⟨hrs, hds⟩, hc⟩
set_option maxRecDepth 100000 in
theorem open_itx (hv : Value.okWide Try.prog w .any b0 23 v) (h : DataW.Trod enc Try.prog w 0 (fun _ => true) true 23 v d p) :
    ∃ (A : Option Addr) (n c : Nat) (ds : List ItX), v = .slice A n c ∧ Its w w.heap.size A n ds := by
  obtain ⟨A, n, c, ds, h1, h2, _⟩ := open_itxc hv h
  exact ⟨A, n, c, ds, h1, h2⟩
set_option maxRecDepth 100000 in
theorem open_vecx (hv : Value.okWide Try.prog w .any b0 22 v) (h : DataW.Trod enc Try.prog w 0 (fun _ => true) true 22 v d p) : ∃ q : IS, v = q.v ∧ q.Vec w w.heap.size := by
  obtain ⟨A, n, c, rfl⟩ := okWide_slice Try.underlying22 hv
  obtain ⟨fuel, hf⟩ := h
  have hf' : DataW.trod enc Try.prog w 0 (fun _ => true) true fuel 22 [.slice A n c] = some (d, p) := by simpa [Value.cells] using hf
  obtain ⟨A', n', c', zs, q, hr, hc, hw, hA⟩ := tr_intsX Try.underlying22 Try.underlying21 pcx_i32 hf'
  simp only [List.cons.injEq, Value.slice.injEq, and_true] at q
  obtain ⟨rfl, rfl, rfl⟩ := q
  have hm := hc.2
  unfold maxLen at hm
  exact ⟨⟨A, n, c, zs⟩, rfl, hA, by show n ≤ _; omega, hr, fun z hz => range_i32 (hw z hz)⟩
end
end Go.Proofs.Ytpcbfoddlpgdjaa
