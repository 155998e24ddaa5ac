/- Arguments opened: a config, acts with their bulk. (The general part is cut out of XOpDm.) -/
import Derived.Test.YtillmlaoppibfaaDoorOpen
import Derived.Test.YtillmlaoppibfaaDoorRs
import Derived.Lib.SmallJoins
import Derived.Test.YtillmlaoppibfaaDoorRows
import Derived.Test.YtillmlaoppibfaaDoorScY
import Derived.Test.YtillmlaoppibfaaDoorScC
namespace Go.Proofs.YtillmlaoppibfaaDoor
open Go.ChangeShapes Go.WideShapes Go.ChangeAt Go.RowKit Go.Joins Go.Deep
section
variable {H : Type} {enc : TypeId × Value → H} {P : Program} {w : World} {k : IntKind} {t e : TypeId} {fuel : Nat} {cs : List Value} {x : DataW H × List MemPlace}
theorem tr_int (ht : P.underlying t = some (.int k)) (h : DataW.trod enc P w 0 (fun _ => true) true fuel t cs = some x) : ∃ z, cs = [.int k z] ∧ (Lit.int k z).wf = true := by
  obtain ⟨z, e0, _, w0⟩ := DataW.trod_int ht h
  exact ⟨z, e0, w0⟩
theorem tr_ints (ht : P.underlying t = some (.slice e)) (he : P.underlying e = some (.int k)) (hc : P.cellsOf e = 1) (h : DataW.trod enc P w 0 (fun _ => true) true fuel t cs = some x) :
    ∃ (A : Option Addr) (n c : Nat) (zs : List Int), cs = [.slice A n c] ∧ Rd w w.heap.size A n (zs.map (.int k)) ∧ (n ≤ c ∧ c ≤ maxLen) ∧ (∀ z ∈ zs, (Lit.int k z).wf = true) ∧ (A = none → n = 0 ∧ c = 0) := by
  rcases open_ints ht he hc h with ⟨rfl, _⟩ | ⟨a, n, c, zs, rfl, _, hl, hm, hz, _, hcell, hwz⟩
  · exact ⟨none, 0, 0, [], rfl, Rd.nil_, ⟨by omega, by omega⟩, by simp, fun _ => ⟨rfl, rfl⟩⟩
  · have hz' : zs.length = c := by simpa using hz
    refine ⟨some a, n, c, zs.take n, rfl, ⟨by simp; omega, fun hn => ?_⟩, ⟨hl, hm⟩, fun z hmem => hwz z (List.mem_of_mem_take hmem), fun h => by cases h⟩
    obtain ⟨b, o, rfl, hcell'⟩ := ints_at hcell (by omega)
    have hlt : b < w.heap.size := block_lt_of_cell (a := ⟨b, o + 0, none⟩) (hcell' 0 (by omega))
    refine ⟨b, o, rfl, hlt, fun j u hu => ?_⟩
    rw [List.getElem?_map, List.getElem?_take] at hu
    split at hu
    · rename_i hj
      rw [hcell' j (by omega), ← hu, List.getElem?_eq_getElem (by omega : j < zs.length), List.getD_eq_getElem?_getD, List.getElem?_eq_getElem (by omega : j < zs.length)]
      rfl
    · simp at hu
theorem tr_structs {sz : Nat} (ht : P.underlying t = some (.slice e)) (hC : P.cellsOf e = sz) (hsz : 0 < sz) (h : DataW.trod enc P w 0 (fun _ => true) true fuel t cs = some x) :
    ∃ (A : Option Addr) (n c : Nat) (css : List (List Value)), cs = [.slice A n c] ∧ Rs w w.heap.size A n sz css ∧ (n ≤ c ∧ c ≤ maxLen) ∧ (A = none → n = 0 ∧ c = 0) ∧ ∀ d ∈ css, ∃ m y, DataW.trod enc P w 0 (fun _ => true) true m e d = some y := by
  rcases DataW.trod_slice ht h with ⟨rfl, _⟩ | ⟨a, n, c, elems, rest, m, _, rfl, _, _, hl, hm, he, hel, _, _⟩
  · exact ⟨none, 0, 0, [], rfl, Rs.nil_, ⟨by omega, by omega⟩, fun _ => ⟨rfl, rfl⟩, by simp⟩
  · have hall : ∀ i, i < n → ∃ d, (∀ j, j < sz → w.cell? ((a.add (i * sz)).add j) = d[j]?) ∧ d.length = sz ∧ ∃ y, DataW.trod enc P w 0 (fun _ => true) true m e d = some y := by
      intro i hi
      have hb := hel i hi
      rw [List.getElem?_eq_getElem (by omega), hC] at hb
      obtain ⟨d, hd, htr⟩ := Option.bind_eq_some_iff.1 hb
      obtain ⟨_, hlen, hce⟩ := World.cells?_some hd
      exact ⟨d, hce, hlen, _, htr⟩
    obtain ⟨css, hcl, hcs⟩ : ∃ css : List (List Value), css.length = n ∧ ∀ i d, css[i]? = some d → i < n ∧ (∀ j, j < sz → w.cell? ((a.add (i * sz)).add j) = d[j]?) ∧ d.length = sz ∧ ∃ y, DataW.trod enc P w 0 (fun _ => true) true m e d = some y := by
      clear he hel h hl
      revert hall
      generalize n = n'
      intro hall
      induction n' with
      | zero => exact ⟨[], rfl, by simp⟩
      | succ q ih =>
        obtain ⟨css, hl, hc⟩ := ih (fun i hi => hall i (by omega))
        obtain ⟨d, hd⟩ := hall q (by omega)
        refine ⟨css ++ [d], by simp [hl], fun i d' hi => ?_⟩
        by_cases hlt : i < q
        · rw [List.getElem?_append_left (by omega)] at hi
          have := hc i d' hi
          exact ⟨by omega, this.2⟩
        · rw [List.getElem?_append_right (by omega), hl] at hi
          have hi0 : i - q = 0 := by
            by_cases h0 : i - q = 0
            · exact h0
            · rw [List.getElem?_eq_none (by simp; omega)] at hi; cases hi
          obtain rfl : i = q := by omega
          rw [hi0] at hi
          simp only [List.getElem?_cons_zero, Option.some.injEq] at hi
          subst hi
          exact ⟨by omega, hd⟩
    have hmem : ∀ d ∈ css, ∃ i : Nat, css[i]? = some d := fun d hd => by
      obtain ⟨i, hi, e⟩ := List.mem_iff_getElem.1 hd
      exact ⟨i, by rw [List.getElem?_eq_getElem hi, e]⟩
    refine ⟨some a, n, c, css, rfl, ⟨hcl, fun d hd => ?_, fun hn => ?_⟩, ⟨hl, hm⟩, (fun h => by cases h), fun d hd => ?_⟩
    · obtain ⟨i, hi⟩ := hmem d hd
      exact (hcs i d hi).2.2.1
    · obtain ⟨b, o, spot⟩ := a
      obtain ⟨d, hd, hdl, _⟩ := hall 0 hn
      have h0 := hd 0 hsz
      rw [List.getElem?_eq_getElem (by omega)] at h0
      have hspot : spot = none := by simpa [Addr.add] using World.cell?_spot h0
      subst hspot
      have hlt : b < w.heap.size := by
        rw [Addr.add_lit, Addr.add_lit] at h0
        exact World.block_lt_of_cell? _ _ h0
      refine ⟨b, o, rfl, hlt, fun i d hi j u hu => ?_⟩
      obtain ⟨_, hq, hdl, _⟩ := hcs i d hi
      have hj : j < sz := by rw [← hdl]; exact (List.getElem?_eq_some_iff.1 hu).1
      have := hq j hj
      rw [Addr.add_lit, Addr.add_lit] at this
      rw [this, hu]
    · obtain ⟨i, hi⟩ := hmem d hd
      obtain ⟨_, _, _, y, hy⟩ := hcs i d hi
      exact ⟨m, y, hy⟩
end
theorem list_choice {α β : Type} {f : β → α} {Q : β → Prop} : ∀ css : List α, (∀ c ∈ css, ∃ g, c = f g ∧ Q g) → ∃ gs : List β, css = gs.map f ∧ ∀ g ∈ gs, Q g
  | [], _ => ⟨[], rfl, by simp⟩
  | c :: css, h => by
    obtain ⟨g, rfl, hg⟩ := h c (List.mem_cons_self ..)
    obtain ⟨gs, rfl, hgs⟩ := list_choice css fun c' hc => h c' (List.mem_cons_of_mem _ hc)
    refine ⟨g :: gs, rfl, fun q hq => ?_⟩
    rcases List.mem_cons.1 hq with rfl | hq
    · exact hg
    · exact hgs q hq
theorem bk_one {H : Type} (d : DataW H) : 1 ≤ Rows.uptoBulk d := by
  cases d with
  | lit l => cases l <;> simp [Rows.uptoBulk]
  | _ => simp [Rows.uptoBulk]
theorem bk_mem {H : Type} {d : DataW H} {l : List (DataW H)} (h : d ∈ l) : Rows.uptoBulk d ≤ Rows.uptoBulkAll l := by
  induction l with
  | nil => cases h
  | cons x r ih =>
    simp only [Rows.uptoBulkAll]
    rcases List.mem_cons.1 h with e | e
    · subst e; omega
    · have := ih e; omega
theorem bk_len {H : Type} (l : List (DataW H)) : l.length ≤ Rows.uptoBulkAll l := by
  induction l with
  | nil => simp [Rows.uptoBulkAll]
  | cons x r ih => have := bk_one x; simp only [Rows.uptoBulkAll, List.length_cons]; omega
section
variable {H : Type} {enc : TypeId × Value → H} {P : Program} {w : World} {t e : TypeId} {fuel : Nat} {cs : List Value} {x : DataW H × List MemPlace}
theorem tr_structs_b {sz : Nat} (ht : P.underlying t = some (.slice e)) (hC : P.cellsOf e = sz) (hsz : 0 < sz) (h : DataW.trod enc P w 0 (fun _ => true) true fuel t cs = some x) :
    ∃ (A : Option Addr) (n c : Nat) (css : List (List Value)), cs = [.slice A n c] ∧ Rs w w.heap.size A n sz css ∧ (n ≤ c ∧ c ≤ maxLen) ∧ (A = none → n = 0 ∧ c = 0) ∧ n ≤ Rows.uptoBulk x.1 ∧ ∀ d ∈ css, ∃ m y, DataW.trod enc P w 0 (fun _ => true) true m e d = some y ∧ Rows.uptoBulk y.1 ≤ Rows.uptoBulk x.1 := by
  rcases DataW.trod_slice ht h with ⟨rfl, _⟩ | ⟨a, n, c, elems, rest, m, _, rfl, rfl, _, hl, hm, he, hel, _, _⟩
  · exact ⟨none, 0, 0, [], rfl, Rs.nil_, ⟨by omega, by omega⟩, fun _ => ⟨rfl, rfl⟩, Nat.zero_le _, by simp⟩
  · have hbk : n ≤ Rows.uptoBulk (DataW.slice (elems.map (·.1)) (rest.map (·.1))) ∧ ∀ y ∈ elems, Rows.uptoBulk y.1 ≤ Rows.uptoBulk (DataW.slice (elems.map (·.1)) (rest.map (·.1))) := by
      refine ⟨?_, fun y hy => ?_⟩
      · have := bk_len (elems.map (·.1))
        rw [List.length_map] at this
        simp only [Rows.uptoBulk]
        omega
      · have := bk_mem (List.mem_map_of_mem (f := (·.1)) hy)
        simp only [Rows.uptoBulk]
        omega
    have hall : ∀ i, i < n → ∃ d, (∀ j, j < sz → w.cell? ((a.add (i * sz)).add j) = d[j]?) ∧ d.length = sz ∧ ∃ y, DataW.trod enc P w 0 (fun _ => true) true m e d = some y ∧ y ∈ elems := by
      intro i hi
      have hb := hel i hi
      rw [List.getElem?_eq_getElem (by omega), hC] at hb
      obtain ⟨d, hd, htr⟩ := Option.bind_eq_some_iff.1 hb
      obtain ⟨_, hlen, hce⟩ := World.cells?_some hd
      exact ⟨d, hce, hlen, _, htr, List.getElem_mem (by omega)⟩
    obtain ⟨css, hcl, hcs⟩ : ∃ css : List (List Value), css.length = n ∧ ∀ i d, css[i]? = some d → i < n ∧ (∀ j, j < sz → w.cell? ((a.add (i * sz)).add j) = d[j]?) ∧ d.length = sz ∧ ∃ y, DataW.trod enc P w 0 (fun _ => true) true m e d = some y ∧ y ∈ elems := by
      clear he hel h hl
      revert hall
      generalize n = n'
      intro hall
      induction n' with
      | zero => exact ⟨[], rfl, by simp⟩
      | succ q ih =>
        obtain ⟨css, hl, hc⟩ := ih (fun i hi => hall i (by omega))
        obtain ⟨d, hd⟩ := hall q (by omega)
        refine ⟨css ++ [d], by simp [hl], fun i d' hi => ?_⟩
        by_cases hlt : i < q
        · rw [List.getElem?_append_left (by omega)] at hi
          have := hc i d' hi
          exact ⟨by omega, this.2⟩
        · rw [List.getElem?_append_right (by omega), hl] at hi
          have hi0 : i - q = 0 := by
            by_cases h0 : i - q = 0
            · exact h0
            · rw [List.getElem?_eq_none (by simp; omega)] at hi; cases hi
          obtain rfl : i = q := by omega
          rw [hi0] at hi
          simp only [List.getElem?_cons_zero, Option.some.injEq] at hi
          subst hi
          exact ⟨by omega, hd⟩
    have hmem : ∀ d ∈ css, ∃ i : Nat, css[i]? = some d := fun d hd => by
      obtain ⟨i, hi, e⟩ := List.mem_iff_getElem.1 hd
      exact ⟨i, by rw [List.getElem?_eq_getElem hi, e]⟩
    refine ⟨some a, n, c, css, rfl, ⟨hcl, fun d hd => ?_, fun hn => ?_⟩, ⟨hl, hm⟩, (fun h => by cases h), hbk.1, fun d hd => ?_⟩
    · obtain ⟨i, hi⟩ := hmem d hd
      exact (hcs i d hi).2.2.1
    · obtain ⟨b, o, spot⟩ := a
      obtain ⟨d, hd, hdl, _⟩ := hall 0 hn
      have h0 := hd 0 hsz
      rw [List.getElem?_eq_getElem (by omega)] at h0
      have hspot : spot = none := by simpa [Addr.add] using World.cell?_spot h0
      subst hspot
      have hlt : b < w.heap.size := by
        rw [Addr.add_lit, Addr.add_lit] at h0
        exact World.block_lt_of_cell? _ _ h0
      refine ⟨b, o, rfl, hlt, fun i d hi j u hu => ?_⟩
      obtain ⟨_, hq, hdl, _⟩ := hcs i d hi
      have hj : j < sz := by rw [← hdl]; exact (List.getElem?_eq_some_iff.1 hu).1
      have := hq j hj
      rw [Addr.add_lit, Addr.add_lit] at this
      rw [this, hu]
    · obtain ⟨i, hi⟩ := hmem d hd
      obtain ⟨_, _, _, y, hy, hye⟩ := hcs i d hi
      exact ⟨m, y, hy, hbk.2 y hye⟩
theorem tr_len {A : Option Addr} {n c : Nat} (ht : P.underlying t = some (.slice e)) (h : DataW.trod enc P w 0 (fun _ => true) true fuel t [.slice A n c] = some x) : n ≤ Rows.uptoBulk x.1 := by
  rcases DataW.trod_slice ht h with ⟨q, _⟩ | ⟨a, n', c', elems, rest, m, _, q, rfl, _, _, _, he, _⟩
  · simp only [List.cons.injEq, Value.slice.injEq, and_true] at q
    omega
  · simp only [List.cons.injEq, Value.slice.injEq, and_true] at q
    have := bk_len (elems.map (·.1))
    rw [List.length_map] at this
    simp only [Rows.uptoBulk]
    omega
end
section
variable {H : Type} {enc : TypeId × Value → H} {w : World} {fuel : Nat} {cs : List Value} {x : DataW H × List MemPlace}
theorem pc_int : Tryd.prog.cellsOf 3 = 1 := by kernel_rfl
theorem pc_u64 : Tryd.prog.cellsOf 33 = 1 := by kernel_rfl
theorem pc_i32 : Tryd.prog.cellsOf 21 = 1 := by kernel_rfl
theorem pc_i32s : Tryd.prog.cellsOf 34 = 1 := by kernel_rfl
theorem pc_item : Tryd.prog.cellsOf 36 = 3 := by kernel_rfl
theorem pc_call : Tryd.prog.cellsOf 38 = 7 := by kernel_rfl
theorem pc_act : Tryd.prog.cellsOf 40 = 8 := by kernel_rfl
theorem pc_cfg : Tryd.prog.cellsOf 23 = 5 := by kernel_rfl
theorem pl8 {α : Type} {l : List α} (h : l.length = 8) : ∃ a b c d e f g i, l = [a, b, c, d, e, f, g, i] := by
  match l, h with
  | [a, b, c, d, e, f, g, i], _ => exact ⟨a, b, c, d, e, f, g, i, rfl⟩
theorem pl7 {α : Type} {l : List α} (h : l.length = 7) : ∃ a b c d e f g, l = [a, b, c, d, e, f, g] := by
  match l, h with
  | [a, b, c, d, e, f, g], _ => exact ⟨a, b, c, d, e, f, g, rfl⟩
theorem pl5 {α : Type} {l : List α} (h : l.length = 5) : ∃ a b c d e, l = [a, b, c, d, e] := by
  match l, h with
  | [a, b, c, d, e], _ => exact ⟨a, b, c, d, e, rfl⟩
theorem pl3 {α : Type} {l : List α} (h : l.length = 3) : ∃ a b c, l = [a, b, c] := by
  match l, h with
  | [a, b, c], _ => exact ⟨a, b, c, rfl⟩
theorem u64_nat {z : Int} (h : (Lit.int .u64 z).wf = true) : ∃ u : Nat, z = u ∧ u ≤ 18446744073709551615 := by
  simp [Lit.wf, IntKind.min, IntKind.max, IntKind.signed, IntKind.bits] at h
  exact ⟨z.toNat, by omega, by omega⟩
theorem i32_rng {z : Int} (h : (Lit.int .i32 z).wf = true) : -2147483648 ≤ z ∧ z ≤ 2147483647 := range_i32 h
/-- An item, with its bulk. -/
theorem pt_itemA (h : DataW.trod enc Tryd.prog w 0 (fun _ => true) true fuel 36 cs = some x) :
    ∃ (id : Nat) (A : Option Addr) (n c : Nat) (vec : List Int) (tags : Nat), cs = [.int .u64 id, .slice A n c, .int .u64 tags] ∧ Rd w w.heap.size A n (vec.map (.int .i32)) ∧ n ≤ c ∧ (∀ z ∈ vec, -2147483648 ≤ z ∧ z ≤ 2147483647) ∧ id ≤ 18446744073709551615 ∧ tags ≤ 18446744073709551615 ∧ n ≤ Rows.uptoBulk x.1 := by
  obtain ⟨xs, m, _, rfl, hl, hn, hf⟩ := DataW.trod_struct Tryd.underlying36 h
  rw [pc_item] at hl
  obtain ⟨c0, c1, c2, rfl⟩ := pl3 hl
  have hxl : ∀ i, i < 3 → i < xs.length := fun i hi => by rw [hn]; exact hi
  have h0 : DataW.trod enc Tryd.prog w 0 (fun _ => true) true m 33 (List.take (Tryd.prog.cellsOf 33) (List.drop 0 [c0, c1, c2])) = xs[0]? := hf 0 _ rfl
  rw [List.getElem?_eq_getElem (hxl 0 (by decide)), pc_u64] at h0
  have h1 : DataW.trod enc Tryd.prog w 0 (fun _ => true) true m 34 (List.take (Tryd.prog.cellsOf 34) (List.drop 1 [c0, c1, c2])) = xs[1]? := hf 1 _ rfl
  rw [List.getElem?_eq_getElem (hxl 1 (by decide)), pc_i32s] at h1
  have h2 : DataW.trod enc Tryd.prog w 0 (fun _ => true) true m 33 (List.take (Tryd.prog.cellsOf 33) (List.drop 2 [c0, c1, c2])) = xs[2]? := hf 2 _ rfl
  rw [List.getElem?_eq_getElem (hxl 2 (by decide)), pc_u64] at h2
  simp only [List.drop_zero, List.drop_succ_cons, List.take_succ_cons, List.take_zero] at h0 h1 h2
  obtain ⟨id, q0, w0⟩ := tr_int Tryd.underlying33 h0
  obtain ⟨A, n, c, vec, q1, hr, hc, hw, hA⟩ := tr_ints Tryd.underlying34 Tryd.underlying21 pc_i32 h1
  obtain ⟨tags, q2, w2⟩ := tr_int Tryd.underlying33 h2
  simp only [List.cons.injEq, and_true] at q0 q1 q2
  subst q0 q1 q2
  have h3 := tr_len Tryd.underlying34 h1
  have h4 := bk_mem (List.mem_map_of_mem (f := (·.1)) (List.getElem_mem (hxl 1 (by decide))))
  obtain ⟨ui, rfl, hui⟩ := u64_nat w0
  obtain ⟨ut, rfl, hut⟩ := u64_nat w2
  refine ⟨ui, A, n, c, vec, ut, rfl, hr, hc.1, fun z hz => i32_rng (hw z hz), hui, hut, ?_⟩
  simp only [Rows.uptoBulk]
  omega
/-- A call. -/
theorem pt_callA (h : DataW.trod enc Tryd.prog w 0 (fun _ => true) true fuel 38 cs = some x) :
    ∃ (a : SAct) (V : Option Addr) (vn vc : Nat), (∀ wk, cs = (callC { a with wk := wk } V vn vc).toList) ∧ vn ≤ vc ∧ Rd w w.heap.size V vn (a.vec.map (.int .i32)) ∧ a.Rng ∧ vn ≤ Rows.uptoBulk x.1 := by
  obtain ⟨xs, m, _, rfl, hl, hn, hf⟩ := DataW.trod_struct Tryd.underlying38 h
  rw [pc_call] at hl
  obtain ⟨c0, c1, c2, c3, c4, c5, c6, rfl⟩ := pl7 hl
  have hxl : ∀ i, i < 5 → i < xs.length := fun i hi => by rw [hn]; exact hi
  have h0 : DataW.trod enc Tryd.prog w 0 (fun _ => true) true m 3 (List.take (Tryd.prog.cellsOf 3) (List.drop 0 [c0, c1, c2, c3, c4, c5, c6])) = xs[0]? := hf 0 _ rfl
  rw [List.getElem?_eq_getElem (hxl 0 (by decide)), pc_int] at h0
  have h1 : DataW.trod enc Tryd.prog w 0 (fun _ => true) true m 36 (List.take (Tryd.prog.cellsOf 36) (List.drop 1 [c0, c1, c2, c3, c4, c5, c6])) = xs[1]? := hf 1 _ rfl
  rw [List.getElem?_eq_getElem (hxl 1 (by decide)), pc_item] at h1
  have h2 : DataW.trod enc Tryd.prog w 0 (fun _ => true) true m 3 (List.take (Tryd.prog.cellsOf 3) (List.drop 4 [c0, c1, c2, c3, c4, c5, c6])) = xs[2]? := hf 2 _ rfl
  rw [List.getElem?_eq_getElem (hxl 2 (by decide)), pc_int] at h2
  have h3 : DataW.trod enc Tryd.prog w 0 (fun _ => true) true m 3 (List.take (Tryd.prog.cellsOf 3) (List.drop 5 [c0, c1, c2, c3, c4, c5, c6])) = xs[3]? := hf 3 _ rfl
  rw [List.getElem?_eq_getElem (hxl 3 (by decide)), pc_int] at h3
  have h4 : DataW.trod enc Tryd.prog w 0 (fun _ => true) true m 33 (List.take (Tryd.prog.cellsOf 33) (List.drop 6 [c0, c1, c2, c3, c4, c5, c6])) = xs[4]? := hf 4 _ rfl
  rw [List.getElem?_eq_getElem (hxl 4 (by decide)), pc_u64] at h4
  simp only [List.drop_zero, List.drop_succ_cons, List.take_succ_cons, List.take_zero] at h0 h1 h2 h3 h4
  obtain ⟨kind, q0, w0⟩ := tr_int Tryd.underlying3 h0
  obtain ⟨id, V, vn, vc, vec, tags, q1, hr, hc, hw, hi, ht, hvb⟩ := pt_itemA h1
  obtain ⟨k, q2, w2⟩ := tr_int Tryd.underlying3 h2
  obtain ⟨ef, q3, w3⟩ := tr_int Tryd.underlying3 h3
  obtain ⟨dr, q4, w4⟩ := tr_int Tryd.underlying33 h4
  obtain ⟨ud, rfl, hud⟩ := u64_nat w4
  simp only [List.cons.injEq, and_true] at q0 q1 q2 q3 q4
  obtain ⟨p1, p2, p3⟩ := q1
  subst q0 p1 p2 p3 q2 q3 q4
  have hm := bk_mem (List.mem_map_of_mem (f := (·.1)) (List.getElem_mem (hxl 1 (by decide))))
  refine ⟨⟨0, kind, id, vec, tags, k, ef, ud⟩, V, vn, vc, fun _ => rfl, hc, hr, ⟨hi, ht, hud, hw⟩, ?_⟩
  simp only [Rows.uptoBulk]
  omega
/-- An act. -/
theorem pt_actA (h : DataW.trod enc Tryd.prog w 0 (fun _ => true) true fuel 40 cs = some x) :
    ∃ (a : SAct) (V : Option Addr) (vn vc : Nat), cs = actC a V vn vc ∧ vn ≤ vc ∧ Rd w w.heap.size V vn (a.vec.map (.int .i32)) ∧ a.Rng ∧ vn ≤ Rows.uptoBulk x.1 := by
  obtain ⟨xs, m, _, rfl, hl, hn, hf⟩ := DataW.trod_struct Tryd.underlying40 h
  rw [pc_act] at hl
  obtain ⟨c0, c1, c2, c3, c4, c5, c6, c7, rfl⟩ := pl8 hl
  have hxl : ∀ i, i < 2 → i < xs.length := fun i hi => by rw [hn]; exact hi
  have h0 : DataW.trod enc Tryd.prog w 0 (fun _ => true) true m 3 (List.take (Tryd.prog.cellsOf 3) (List.drop 0 [c0, c1, c2, c3, c4, c5, c6, c7])) = xs[0]? := hf 0 _ rfl
  rw [List.getElem?_eq_getElem (hxl 0 (by decide)), pc_int] at h0
  have h1 : DataW.trod enc Tryd.prog w 0 (fun _ => true) true m 38 (List.take (Tryd.prog.cellsOf 38) (List.drop 1 [c0, c1, c2, c3, c4, c5, c6, c7])) = xs[1]? := hf 1 _ rfl
  rw [List.getElem?_eq_getElem (hxl 1 (by decide)), pc_call] at h1
  simp only [List.drop_zero, List.drop_succ_cons, List.take_succ_cons, List.take_zero] at h0 h1
  obtain ⟨wk, q0, w0⟩ := tr_int Tryd.underlying3 h0
  obtain ⟨a, V, vn, vc, q1, hc, hr, hg, hvb⟩ := pt_callA h1
  simp only [List.cons.injEq, and_true] at q0
  subst q0
  have hm := bk_mem (List.mem_map_of_mem (f := (·.1)) (List.getElem_mem (hxl 1 (by decide))))
  refine ⟨{ a with wk := wk }, V, vn, vc, ?_, hc, hr, hg, ?_⟩
  · unfold actC
    rw [← q1 wk]
  · simp only [Rows.uptoBulk]
    omega
end
section
variable {H : Type} {enc : TypeId × Value → H} {w : World} {b0 : Nat} {v : Value} {d : DataW H} {p : List MemPlace}
set_option maxRecDepth 100000 in
theorem open_acts_b (hb : Rows.uptoBulk d ≤ 1048576) (hv : Value.okWide Tryd.prog w .any b0 24 v) (h : DataW.Trod enc Tryd.prog w 0 (fun _ => true) true 24 v d p) :
    ∃ (A : Option Addr) (n c : Nat) (l : List SAct), v = .slice A n c ∧ n ≤ 1048576 ∧ n ≤ c ∧ AcsAt w w.heap.size A n l := by
  obtain ⟨A, n, c, rfl⟩ := okWide_slice Tryd.underlying24 hv
  obtain ⟨fuel, hf⟩ := h
  have hf' : DataW.trod enc Tryd.prog w 0 (fun _ => true) true fuel 24 [.slice A n c] = some (d, p) := by simpa [Value.cells] using hf
  obtain ⟨A', n', c', css, q, hrs, hnc, _, hn, hall⟩ := tr_structs_b Tryd.underlying24 pc_act (by decide) hf'
  simp only [List.cons.injEq, Value.slice.injEq, and_true] at q
  obtain ⟨rfl, rfl, rfl⟩ := q
  have key : ∀ css : List (List Value), (∀ d' ∈ css, ∃ m' y, DataW.trod enc Tryd.prog w 0 (fun _ => true) true m' 40 d' = some y ∧ Rows.uptoBulk y.1 ≤ Rows.uptoBulk (d, p).1) → ∃ l : List SAct, l.length = css.length ∧ ∀ (i : Nat) (a : SAct), l[i]? = some a → ∃ V vn vc, css[i]? = some (actC a V vn vc) ∧ vn ≤ vc ∧ vn ≤ 1048576 ∧ Rd w w.heap.size V vn (a.vec.map (.int .i32)) ∧ a.Rng := by
    intro css
    induction css with
    | nil => exact fun _ => ⟨[], rfl, fun i a hi => by simp at hi⟩
    | cons c0 css ih =>
      intro hh
      obtain ⟨l, hl, hx⟩ := ih (fun d' hd => hh d' (by simp [hd]))
      obtain ⟨m', y, hy, hyb⟩ := hh c0 (by simp)
      obtain ⟨a, V, vn, vc, e, k1, k2, k3, k4⟩ := pt_actA hy
      refine ⟨a :: l, by rw [List.length_cons, List.length_cons, hl], fun i b hi => ?_⟩
      cases i with
      | zero =>
        injection hi with hi
        subst hi
        exact ⟨V, vn, vc, by rw [e]; rfl, k1, Nat.le_trans k4 (Nat.le_trans (show _ ≤ Rows.uptoBulk d from hyb) hb), k2, k3⟩
      | succ i => exact hx i b hi
  obtain ⟨l, hl, hx⟩ := key css hall
  exact ⟨A, n, c, l, rfl, Nat.le_trans (show n ≤ Rows.uptoBulk d from hn) hb, hnc.1, css, hrs, by rw [hl, hrs.len], hx⟩
set_option maxRecDepth 100000 in
theorem open_cfg (hv : Value.okWide Tryd.prog w .any b0 23 v) (h : DataW.Trod enc Tryd.prog w 0 (fun _ => true) true 23 v d p) : ∃ c : SCfg, v = c.v := by
  obtain ⟨cs, rfl, hsz⟩ := okWide_struct Tryd.underlying23 hv
  obtain ⟨fuel, hf0⟩ := h
  have hf1 : DataW.trod enc Tryd.prog w 0 (fun _ => true) true fuel 23 cs.toList = some (d, p) := by simpa [Value.cells] using hf0
  obtain ⟨xs, m, _, _, hl, hn, hf⟩ := DataW.trod_struct Tryd.underlying23 hf1
  rw [pc_cfg] at hl
  obtain ⟨c0, c1, c2, c3, c4, hcs⟩ := pl5 hl
  rw [hcs] at hf
  have hxl : ∀ i, i < 5 → i < xs.length := fun i hi => by rw [hn]; exact hi
  have h0 : DataW.trod enc Tryd.prog w 0 (fun _ => true) true m 3 (List.take (Tryd.prog.cellsOf 3) (List.drop 0 [c0, c1, c2, c3, c4])) = xs[0]? := hf 0 _ rfl
  rw [List.getElem?_eq_getElem (hxl 0 (by decide)), pc_int] at h0
  have h1 : DataW.trod enc Tryd.prog w 0 (fun _ => true) true m 3 (List.take (Tryd.prog.cellsOf 3) (List.drop 1 [c0, c1, c2, c3, c4])) = xs[1]? := hf 1 _ rfl
  rw [List.getElem?_eq_getElem (hxl 1 (by decide)), pc_int] at h1
  have h2 : DataW.trod enc Tryd.prog w 0 (fun _ => true) true m 3 (List.take (Tryd.prog.cellsOf 3) (List.drop 2 [c0, c1, c2, c3, c4])) = xs[2]? := hf 2 _ rfl
  rw [List.getElem?_eq_getElem (hxl 2 (by decide)), pc_int] at h2
  have h3 : DataW.trod enc Tryd.prog w 0 (fun _ => true) true m 3 (List.take (Tryd.prog.cellsOf 3) (List.drop 3 [c0, c1, c2, c3, c4])) = xs[3]? := hf 3 _ rfl
  rw [List.getElem?_eq_getElem (hxl 3 (by decide)), pc_int] at h3
  have h4 : DataW.trod enc Tryd.prog w 0 (fun _ => true) true m 3 (List.take (Tryd.prog.cellsOf 3) (List.drop 4 [c0, c1, c2, c3, c4])) = xs[4]? := hf 4 _ rfl
  rw [List.getElem?_eq_getElem (hxl 4 (by decide)), pc_int] at h4
  simp only [List.drop_zero, List.drop_succ_cons, List.take_succ_cons, List.take_zero] at h0 h1 h2 h3 h4
  obtain ⟨z0, q0, _⟩ := tr_int Tryd.underlying3 h0
  obtain ⟨z1, q1, _⟩ := tr_int Tryd.underlying3 h1
  obtain ⟨z2, q2, _⟩ := tr_int Tryd.underlying3 h2
  obtain ⟨z3, q3, _⟩ := tr_int Tryd.underlying3 h3
  obtain ⟨z4, q4, _⟩ := tr_int Tryd.underlying3 h4
  simp only [List.cons.injEq, and_true] at q0 q1 q2 q3 q4
  subst q0 q1 q2 q3 q4
  refine ⟨⟨z0, z1, z2, z3, z4⟩, ?_⟩
  rw [← Array.toArray_toList (xs := cs), hcs]
  rfl
end
end Go.Proofs.YtillmlaoppibfaaDoor
