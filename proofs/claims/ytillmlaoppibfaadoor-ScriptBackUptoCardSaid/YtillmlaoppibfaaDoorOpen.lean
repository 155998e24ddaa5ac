/- What a law is told of its arguments: numbers in range; slices that read as lists. -/
import Derived.Test.YtillmlaoppibfaaDoorMem
import Derived.Test.YtillmlaoppibfaaDoorRngP
import Derived.ProofKit
import Derived.OpenShut
import Derived.ShutString
namespace Go.Proofs.YtillmlaoppibfaaDoor
open Go.ChangeShapes Go.WideShapes Go.ChangeAt Go.RowKit
theorem range_u64 {n : Int} (h : (Lit.int .u64 n).wf = true) : Word n := by
  simp [Lit.wf, IntKind.min, IntKind.max, IntKind.signed, IntKind.bits] at h
  exact ⟨by omega, by omega⟩
theorem range_i64 {n : Int} (h : (Lit.int .i64 n).wf = true) : -9223372036854775808 ≤ n ∧ n ≤ 9223372036854775807 := by
  simp [Lit.wf, IntKind.min, IntKind.max, IntKind.signed, IntKind.bits] at h
  exact ⟨by omega, by omega⟩
theorem range_i32 {n : Int} (h : (Lit.int .i32 n).wf = true) : -2147483648 ≤ n ∧ n ≤ 2147483647 := by
  simp [Lit.wf, IntKind.min, IntKind.max, IntKind.signed, IntKind.bits] at h
  exact ⟨by omega, by omega⟩
theorem range_u8 {n : Int} (h : (Lit.int .u8 n).wf = true) : 0 ≤ n ∧ n ≤ 255 := by
  simp [Lit.wf, IntKind.min, IntKind.max, IntKind.signed, IntKind.bits] at h
  exact ⟨by omega, by omega⟩
section
variable {H : Type} {enc : TypeId × Value → H} {P : Program} {w : World} {b0 : Nat} {k : IntKind}
theorem open_rd {t e : TypeId} {v : Value} {d : DataW H} {p : List MemPlace} (ht : P.underlying t = some (.slice e)) (he : P.underlying e = some (.int k)) (hc : P.cellsOf e = 1)
    (hv : Value.okWide P w .any b0 t v) (h : DataW.Trod enc P w 0 (fun _ => true) true t v d p) :
    ∃ (A : Option Addr) (n c : Nat) (zs : List Int), v = .slice A n c ∧ Rd w w.heap.size A n (zs.map (.int k)) ∧ (n ≤ c ∧ c ≤ maxLen) ∧ ∀ z ∈ zs, (Lit.int k z).wf = true := by
  obtain ⟨A, n, c, rfl⟩ := okWide_slice ht hv
  obtain ⟨fuel, hf⟩ := h
  rcases open_ints ht he hc hf with ⟨hcs, _⟩ | ⟨x, l, c', zs, hcs, _, hl, hm, hz, _, hcell, hwz⟩
  · simp [Value.cells] at hcs
    obtain ⟨rfl, rfl, rfl⟩ := hcs
    exact ⟨none, 0, 0, [], rfl, Rd.nil_, ⟨by omega, by omega⟩, by simp⟩
  · simp [Value.cells] at hcs
    obtain ⟨rfl, rfl, rfl⟩ := hcs
    have hz' : zs.length = c := by simpa using hz
    refine ⟨some x, n, c, zs.take n, rfl, ⟨by simp; omega, fun hn => ?_⟩, ⟨hl, hm⟩, fun z hmem => hwz z (List.mem_of_mem_take hmem)⟩
    obtain ⟨b, o, rfl, hcell'⟩ := ints_at hcell (by omega)
    have hlt : b < w.heap.size := block_lt_of_cell (a := ⟨b, o + 0, none⟩) (hcell' 0 (by omega))
    refine ⟨b, o, rfl, hlt, fun j u hu => ?_⟩
    rw [List.getElem?_map, List.getElem?_take] at hu
    split at hu
    · rename_i hj
      rw [hcell' j (by omega), ← hu, List.getElem?_eq_getElem (by omega : j < zs.length), List.getD_eq_getElem?_getD, List.getElem?_eq_getElem (by omega : j < zs.length)]
      rfl
    · simp at hu
theorem open_rd_u64 {t e : TypeId} {v : Value} {d : DataW H} {p : List MemPlace} (ht : P.underlying t = some (.slice e)) (he : P.underlying e = some (.int .u64)) (hc : P.cellsOf e = 1)
    (hv : Value.okWide P w .any b0 t v) (h : DataW.Trod enc P w 0 (fun _ => true) true t v d p) :
    ∃ (A : Option Addr) (n c : Nat) (zs : List Int), v = .slice A n c ∧ Rd w w.heap.size A n (zs.map (.int .u64)) ∧ (n ≤ c ∧ c ≤ maxLen) ∧ ∀ z ∈ zs, Word z :=
  let ⟨A, n, c, zs, e, hr, hn, hz⟩ := open_rd ht he hc hv h
  ⟨A, n, c, zs, e, hr, hn, fun z hm => range_u64 (hz z hm)⟩
theorem open_rd_i64 {t e : TypeId} {v : Value} {d : DataW H} {p : List MemPlace} (ht : P.underlying t = some (.slice e)) (he : P.underlying e = some (.int .i64)) (hc : P.cellsOf e = 1)
    (hv : Value.okWide P w .any b0 t v) (h : DataW.Trod enc P w 0 (fun _ => true) true t v d p) :
    ∃ (A : Option Addr) (n c : Nat) (zs : List Int), v = .slice A n c ∧ Rd w w.heap.size A n (zs.map (.int .i64)) ∧ (n ≤ c ∧ c ≤ maxLen) ∧ ∀ z ∈ zs, -9223372036854775808 ≤ z ∧ z ≤ 9223372036854775807 :=
  let ⟨A, n, c, zs, e, hr, hn, hz⟩ := open_rd ht he hc hv h
  ⟨A, n, c, zs, e, hr, hn, fun z hm => range_i64 (hz z hm)⟩
theorem open_rd_i32 {t e : TypeId} {v : Value} {d : DataW H} {p : List MemPlace} (ht : P.underlying t = some (.slice e)) (he : P.underlying e = some (.int .i32)) (hc : P.cellsOf e = 1)
    (hv : Value.okWide P w .any b0 t v) (h : DataW.Trod enc P w 0 (fun _ => true) true t v d p) :
    ∃ (A : Option Addr) (n c : Nat) (zs : List Int), v = .slice A n c ∧ Rd w w.heap.size A n (zs.map (.int .i32)) ∧ (n ≤ c ∧ c ≤ maxLen) ∧ ∀ z ∈ zs, -2147483648 ≤ z ∧ z ≤ 2147483647 :=
  let ⟨A, n, c, zs, e, hr, hn, hz⟩ := open_rd ht he hc hv h
  ⟨A, n, c, zs, e, hr, hn, fun z hm => range_i32 (hz z hm)⟩
theorem open_rd_u8 {t e : TypeId} {v : Value} {d : DataW H} {p : List MemPlace} (ht : P.underlying t = some (.slice e)) (he : P.underlying e = some (.int .u8)) (hc : P.cellsOf e = 1)
    (hv : Value.okWide P w .any b0 t v) (h : DataW.Trod enc P w 0 (fun _ => true) true t v d p) :
    ∃ (A : Option Addr) (n c : Nat) (zs : List Int), v = .slice A n c ∧ Rd w w.heap.size A n (zs.map (.int .u8)) ∧ (n ≤ c ∧ c ≤ maxLen) ∧ ∀ z ∈ zs, 0 ≤ z ∧ z ≤ 255 :=
  let ⟨A, n, c, zs, e, hr, hn, hz⟩ := open_rd ht he hc hv h
  ⟨A, n, c, zs, e, hr, hn, fun z hm => range_u8 (hz z hm)⟩
end
end Go.Proofs.YtillmlaoppibfaaDoor
