/- What a law is told of a slice of texts. -/
import Derived.Test.YtokgcjhlmohjgaaDoorOpen
import Derived.Test.YtokgcjhlmohjgaaDoorLitP
import Derived.SliceStrings
namespace Go.Proofs.YtokgcjhlmohjgaaDoor
open Go.ChangeShapes Go.WideShapes Go.ChangeAt Go.RowKit
section
variable {H : Type} {enc : TypeId × Value → H} {P : Program} {w : World} {b0 : Nat}
theorem open_rd_str {t e : TypeId} {v : Value} {d : DataW H} {p : List MemPlace} (ht : P.underlying t = some (.slice e)) (he : P.underlying e = some .string) (hc : P.cellsOf e = 1)
    (hv : Value.okWide P w .any b0 t v) (h : DataW.Trod enc P w 0 (fun _ => true) true t v d p) :
    ∃ (A : Option Addr) (n c : Nat) (ts : List (List Int)), v = .slice A n c ∧ Rd w w.heap.size A n (ts.map fun t => .string (strOfNums t)) ∧ (n ≤ c ∧ c ≤ maxLen) ∧ ∀ t ∈ ts, Bytes t := by
  obtain ⟨A, n, c, rfl⟩ := okWide_slice ht hv
  obtain ⟨fuel, hf⟩ := h
  rcases open_strings ht he hc hf with ⟨hcs, _⟩ | ⟨x, l, c', zs, hcs, _, hl, hm, hz, _, hcell, _⟩
  · simp [Value.cells] at hcs
    obtain ⟨rfl, rfl, rfl⟩ := hcs
    exact ⟨none, 0, 0, [], rfl, Rd.nil_, ⟨by omega, by omega⟩, by simp⟩
  · simp [Value.cells] at hcs
    obtain ⟨rfl, rfl, rfl⟩ := hcs
    have hz' : zs.length = c := by simpa using hz
    refine ⟨some x, n, c, (zs.take n).map bytesOf, rfl, ⟨by simp; omega, fun hn => ?_⟩, ⟨hl, hm⟩, fun t hmem => ?_⟩
    · obtain ⟨b, o, spot⟩ := x
      have hspot : spot = none := by simpa [Addr.add] using World.cell?_spot (hcell 0 (by omega))
      subst hspot
      have hcell' : ∀ j, j < zs.length → w.cell? ⟨b, o + j, none⟩ = some (.string (zs.getD j ByteArray.empty)) := fun j hj => by rw [← Go.WideShapes.add_plain]; exact hcell j hj
      have hlt : b < w.heap.size := block_lt_of_cell (a := ⟨b, o + 0, none⟩) (hcell' 0 (by omega))
      refine ⟨b, o, rfl, hlt, fun j u hu => ?_⟩
      rw [List.getElem?_map, List.getElem?_map, List.getElem?_take] at hu
      split at hu
      · rename_i hj
        rw [List.getElem?_eq_getElem (by omega : j < zs.length)] at hu
        rw [hcell' j (by omega), ← hu, List.getD_eq_getElem?_getD, List.getElem?_eq_getElem (by omega : j < zs.length)]
        simp [str_of]
      · simp at hu
    · obtain ⟨s, _, rfl⟩ := List.mem_map.1 hmem
      exact bytes_of s
theorem open_rd_strs {t e : TypeId} {v : Value} {d : DataW H} {p : List MemPlace} (ht : P.underlying t = some (.slice e)) (he : P.underlying e = some .string) (hc : P.cellsOf e = 1)
    (hv : Value.okWide P w .any b0 t v) (h : DataW.Trod enc P w 0 (fun _ => true) true t v d p) :
    ∃ (A : Option Addr) (n c : Nat) (ts : List (List Int)), v = .slice A n c ∧ Rd w w.heap.size A n (ts.map fun t => .string (strOfNums t)) ∧ (n ≤ c ∧ c ≤ maxLen) ∧ (∀ t ∈ ts, Bytes t) ∧ ∀ t ∈ ts, t.length ≤ maxLen := by
  obtain ⟨A, n, c, rfl⟩ := okWide_slice ht hv
  obtain ⟨fuel, hf⟩ := h
  rcases open_strings ht he hc hf with ⟨hcs, _⟩ | ⟨x, l, c', zs, hcs, _, hl, hm, hz, _, hcell, hsz⟩
  · simp [Value.cells] at hcs
    obtain ⟨rfl, rfl, rfl⟩ := hcs
    exact ⟨none, 0, 0, [], rfl, Rd.nil_, ⟨by omega, by omega⟩, by simp, by simp⟩
  · simp [Value.cells] at hcs
    obtain ⟨rfl, rfl, rfl⟩ := hcs
    have hz' : zs.length = c := by simpa using hz
    refine ⟨some x, n, c, (zs.take n).map bytesOf, rfl, ⟨by simp; omega, fun hn => ?_⟩, ⟨hl, hm⟩, fun t hmem => ?_, fun t hmem => ?_⟩
    · obtain ⟨b, o, spot⟩ := x
      have hspot : spot = none := by simpa [Addr.add] using World.cell?_spot (hcell 0 (by omega))
      subst hspot
      have hcell' : ∀ j, j < zs.length → w.cell? ⟨b, o + j, none⟩ = some (.string (zs.getD j ByteArray.empty)) := fun j hj => by rw [← Go.WideShapes.add_plain]; exact hcell j hj
      have hlt : b < w.heap.size := block_lt_of_cell (a := ⟨b, o + 0, none⟩) (hcell' 0 (by omega))
      refine ⟨b, o, rfl, hlt, fun j u hu => ?_⟩
      rw [List.getElem?_map, List.getElem?_map, List.getElem?_take] at hu
      split at hu
      · rename_i hj
        rw [List.getElem?_eq_getElem (by omega : j < zs.length)] at hu
        rw [hcell' j (by omega), ← hu, List.getD_eq_getElem?_getD, List.getElem?_eq_getElem (by omega : j < zs.length)]
        simp [str_of]
      · simp at hu
    · obtain ⟨s, _, rfl⟩ := List.mem_map.1 hmem
      exact bytes_of s
    · obtain ⟨s, hs, rfl⟩ := List.mem_map.1 hmem
      have := hsz s (List.mem_of_mem_take hs)
      simpa [bytesOf] using this
end
/-- An element of a list of texts. -/
def tg (ts : List (List Int)) (k : Nat) : List Int := ts.getD k []
theorem Rd.atS {w : World} {B n : Nat} {A : Option Addr} {ts : List (List Int)} (h : Rd w B A n (ts.map fun t => .string (strOfNums t))) {k : Nat} (hk : k < n) :
    ∃ b o, A = some ⟨b, o, none⟩ ∧ b < B ∧ w.cell? ⟨b, o + k, none⟩ = some (.string (strOfNums (tg ts k))) := by
  obtain ⟨b, o, u, e, hb, hx, hc⟩ := h.at_ hk
  refine ⟨b, o, e, hb, ?_⟩
  rw [hc, ← hx, List.getElem?_map, tg, List.getD_eq_getElem?_getD]
  have hl : k < ts.length := by have := h.1; simp at this; omega
  rw [List.getElem?_eq_getElem hl]; rfl
theorem tg_mem {ts : List (List Int)} {k : Nat} (h : k < ts.length) : tg ts k ∈ ts := by
  rw [tg, List.getD_eq_getElem?_getD, List.getElem?_eq_getElem h]; exact List.getElem_mem h
theorem ig_mem {ts : List Int} {k : Nat} (h : k < ts.length) : ig ts k ∈ ts := by
  rw [ig, List.getD_eq_getElem?_getD, List.getElem?_eq_getElem h]; exact List.getElem_mem h
theorem drop_tg {ts : List (List Int)} {k : Nat} (h : k < ts.length) : ts.drop k = tg ts k :: ts.drop (k + 1) := by
  rw [List.drop_eq_getElem_cons h, tg, List.getD_eq_getElem?_getD, List.getElem?_eq_getElem h]; rfl
theorem take_tg {ts : List (List Int)} {k : Nat} (h : k < ts.length) : ts.take (k + 1) = ts.take k ++ [tg ts k] := by
  rw [List.take_succ_eq_append_getElem h, tg, List.getD_eq_getElem?_getD, List.getElem?_eq_getElem h]; rfl
end Go.Proofs.YtokgcjhlmohjgaaDoor
