/- Arguments opened, field by field: numbers, bools, slices of numbers, slices of structs. -/
import Derived.Test.YtlmgfbhgamchgaaOpen
import Derived.Test.YtlmgfbhgamchgaaRs
import Derived.Lib.SmallJoins
namespace Go.Proofs.Ytlmgfbhgamchgaa
open Go.ChangeShapes Go.WideShapes Go.ChangeAt Go.RowKit Go.Joins Go.Deep
section
variable {H : Type} {enc : TypeId × Value → H} {P : Program} {w : World} {k : IntKind} {t e : TypeId} {fuel : Nat} {cs : List Value} {x : DataW H × List MemPlace}
theorem tr_int (ht : P.underlying t = some (.int k)) (h : DataW.trod enc P w 0 (fun _ => true) true fuel t cs = some x) : ∃ z, cs = [.int k z] ∧ (Lit.int k z).wf = true := by
  obtain ⟨z, e0, _, w0⟩ := DataW.trod_int ht h
  exact ⟨z, e0, w0⟩
theorem tr_ints (ht : P.underlying t = some (.slice e)) (he : P.underlying e = some (.int k)) (hc : P.cellsOf e = 1) (h : DataW.trod enc P w 0 (fun _ => true) true fuel t cs = some x) :
    ∃ (A : Option Addr) (n c : Nat) (zs : List Int), cs = [.slice A n c] ∧ Rd w w.heap.size A n (zs.map (.int k)) ∧ (n ≤ c ∧ c ≤ maxLen) ∧ (∀ z ∈ zs, (Lit.int k z).wf = true) ∧ (A = none → n = 0 ∧ c = 0) := by
  rcases open_ints ht he hc h with ⟨rfl, _⟩ | ⟨a, n, c, zs, rfl, _, hl, hm, hz, _, hcell, hwz⟩
  · exact ⟨none, 0, 0, [], rfl, Rd.nil_, ⟨by omega, by omega⟩, by simp, fun _ => ⟨rfl, rfl⟩⟩
  · have hz' : zs.length = c := by simpa using hz
    refine ⟨some a, n, c, zs.take n, rfl, ⟨by simp; omega, fun hn => ?_⟩, ⟨hl, hm⟩, fun z hmem => hwz z (List.mem_of_mem_take hmem), fun h => by cases h⟩
    obtain ⟨b, o, rfl, hcell'⟩ := ints_at hcell (by omega)
    have hlt : b < w.heap.size := block_lt_of_cell (a := ⟨b, o + 0, none⟩) (hcell' 0 (by omega))
    refine ⟨b, o, rfl, hlt, fun j u hu => ?_⟩
    rw [List.getElem?_map, List.getElem?_take] at hu
    split at hu
    · rename_i hj
      rw [hcell' j (by omega), ← hu, List.getElem?_eq_getElem (by omega : j < zs.length), List.getD_eq_getElem?_getD, List.getElem?_eq_getElem (by omega : j < zs.length)]
      rfl
    · simp at hu
theorem tr_structs {sz : Nat} (ht : P.underlying t = some (.slice e)) (hC : P.cellsOf e = sz) (hsz : 0 < sz) (h : DataW.trod enc P w 0 (fun _ => true) true fuel t cs = some x) :
    ∃ (A : Option Addr) (n c : Nat) (css : List (List Value)), cs = [.slice A n c] ∧ Rs w w.heap.size A n sz css ∧ (n ≤ c ∧ c ≤ maxLen) ∧ (A = none → n = 0 ∧ c = 0) ∧ ∀ d ∈ css, ∃ m y, DataW.trod enc P w 0 (fun _ => true) true m e d = some y := by
  rcases DataW.trod_slice ht h with ⟨rfl, _⟩ | ⟨a, n, c, elems, rest, m, _, rfl, _, _, hl, hm, he, hel, _, _⟩
  · exact ⟨none, 0, 0, [], rfl, Rs.nil_, ⟨by omega, by omega⟩, fun _ => ⟨rfl, rfl⟩, by simp⟩
  · have hall : ∀ i, i < n → ∃ d, (∀ j, j < sz → w.cell? ((a.add (i * sz)).add j) = d[j]?) ∧ d.length = sz ∧ ∃ y, DataW.trod enc P w 0 (fun _ => true) true m e d = some y := by
      intro i hi
      have hb := hel i hi
      rw [List.getElem?_eq_getElem (by omega), hC] at hb
      obtain ⟨d, hd, htr⟩ := Option.bind_eq_some_iff.1 hb
      obtain ⟨_, hlen, hce⟩ := World.cells?_some hd
      exact ⟨d, hce, hlen, _, htr⟩
    obtain ⟨css, hcl, hcs⟩ : ∃ css : List (List Value), css.length = n ∧ ∀ i d, css[i]? = some d → i < n ∧ (∀ j, j < sz → w.cell? ((a.add (i * sz)).add j) = d[j]?) ∧ d.length = sz ∧ ∃ y, DataW.trod enc P w 0 (fun _ => true) true m e d = some y := by
      clear he hel h hl
      revert hall
      generalize n = n'
      intro hall
      induction n' with
      | zero => exact ⟨[], rfl, by simp⟩
      | succ q ih =>
        obtain ⟨css, hl, hc⟩ := ih (fun i hi => hall i (by omega))
        obtain ⟨d, hd⟩ := hall q (by omega)
        refine ⟨css ++ [d], by simp [hl], fun i d' hi => ?_⟩
        by_cases hlt : i < q
        · rw [List.getElem?_append_left (by omega)] at hi
          have := hc i d' hi
          exact ⟨by omega, this.2⟩
        · rw [List.getElem?_append_right (by omega), hl] at hi
          have hi0 : i - q = 0 := by
            by_cases h0 : i - q = 0
            · exact h0
            · rw [List.getElem?_eq_none (by simp; omega)] at hi; cases hi
          obtain rfl : i = q := by omega
          rw [hi0] at hi
          simp only [List.getElem?_cons_zero, Option.some.injEq] at hi
          subst hi
          exact ⟨by omega, hd⟩
    have hmem : ∀ d ∈ css, ∃ i : Nat, css[i]? = some d := fun d hd => by
      obtain ⟨i, hi, e⟩ := List.mem_iff_getElem.1 hd
      exact ⟨i, by rw [List.getElem?_eq_getElem hi, e]⟩
    refine ⟨some a, n, c, css, rfl, ⟨hcl, fun d hd => ?_, fun hn => ?_⟩, ⟨hl, hm⟩, (fun h => by cases h), fun d hd => ?_⟩
    · obtain ⟨i, hi⟩ := hmem d hd
      exact (hcs i d hi).2.2.1
    · obtain ⟨b, o, spot⟩ := a
      obtain ⟨d, hd, hdl, _⟩ := hall 0 hn
      have h0 := hd 0 hsz
      rw [List.getElem?_eq_getElem (by omega)] at h0
      have hspot : spot = none := by simpa [Addr.add] using World.cell?_spot h0
      subst hspot
      have hlt : b < w.heap.size := by
        rw [Addr.add_lit, Addr.add_lit] at h0
        exact World.block_lt_of_cell? _ _ h0
      refine ⟨b, o, rfl, hlt, fun i d hi j u hu => ?_⟩
      obtain ⟨_, hq, hdl, _⟩ := hcs i d hi
      have hj : j < sz := by rw [← hdl]; exact (List.getElem?_eq_some_iff.1 hu).1
      have := hq j hj
      rw [Addr.add_lit, Addr.add_lit] at this
      rw [this, hu]
    · obtain ⟨i, hi⟩ := hmem d hd
      obtain ⟨_, _, _, y, hy⟩ := hcs i d hi
      exact ⟨m, y, hy⟩
end
theorem list_choice {α β : Type} {f : β → α} {Q : β → Prop} : ∀ css : List α, (∀ c ∈ css, ∃ g, c = f g ∧ Q g) → ∃ gs : List β, css = gs.map f ∧ ∀ g ∈ gs, Q g
  | [], _ => ⟨[], rfl, by simp⟩
  | c :: css, h => by
    obtain ⟨g, rfl, hg⟩ := h c (List.mem_cons_self ..)
    obtain ⟨gs, rfl, hgs⟩ := list_choice css fun c' hc => h c' (List.mem_cons_of_mem _ hc)
    refine ⟨g :: gs, rfl, fun q hq => ?_⟩
    rcases List.mem_cons.1 hq with rfl | hq
    · exact hg
    · exact hgs q hq
end Go.Proofs.Ytlmgfbhgamchgaa
