/- What a law is told of a slice of structs of two ints. -/
import Derived.Test.YtoodifpkconfcaaOpen
import Derived.Test.YtoodifpkconfcaaEpR
import Derived.Lib.SmallJoins
namespace Go.Proofs.Ytoodifpkconfcaa
open Go.ChangeShapes Go.WideShapes Go.ChangeAt Go.RowKit Go.Joins Go.Deep
section
variable {H : Type} {enc : TypeId × Value → H} {P : Program} {w : World} {b0 : Nat}
theorem two_of {t : TypeId} {f0 f1 : Field} {cs : List Value} {x : DataW H × List MemPlace} {n : Nat} (hs : P.underlying t = some (.struct #[f0, f1])) (hone : oneCellFields P #[f0, f1] = true) (hC : P.cellsOf t = 2)
    (h0 : P.underlying f0.type = some (.int .i64)) (h1 : P.underlying f1.type = some (.int .i64)) (h : DataW.trod enc P w 0 (fun _ => true) true n t cs = some x) :
    ∃ s g : Int, cs = [.int .i64 s, .int .i64 g] ∧ (-9223372036854775808 ≤ s ∧ s ≤ 9223372036854775807) ∧ (-9223372036854775808 ≤ g ∧ g ≤ 9223372036854775807) := by
  obtain ⟨y0, y1, m, _, hl, k0, k1⟩ := trod_struct2 hs h
  obtain ⟨o0, c0⟩ := hone_of hone 0 f0 rfl
  obtain ⟨o1, c1⟩ := hone_of hone 1 f1 rfl
  rw [hC] at hl
  obtain ⟨a, b, rfl⟩ : ∃ a b, cs = [a, b] := by
    match cs, hl with
    | [a, b], _ => exact ⟨a, b, rfl⟩
  rw [o0, c0] at k0
  rw [o1, c1] at k1
  obtain ⟨s, e0, _, w0⟩ := DataW.trod_int h0 k0
  obtain ⟨g, e1, _, w1⟩ := DataW.trod_int h1 k1
  simp at e0 e1
  subst e0 e1
  exact ⟨s, g, rfl, range_i64 w0, range_i64 w1⟩
theorem open_rd2 {t e : TypeId} {f0 f1 : Field} {v : Value} {d : DataW H} {p : List MemPlace} (ht : P.underlying t = some (.slice e)) (hs : P.underlying e = some (.struct #[f0, f1])) (hone : oneCellFields P #[f0, f1] = true) (hC : P.cellsOf e = 2)
    (h0 : P.underlying f0.type = some (.int .i64)) (h1 : P.underlying f1.type = some (.int .i64))
    (hv : Value.okWide P w .any b0 t v) (h : DataW.Trod enc P w 0 (fun _ => true) true t v d p) :
    ∃ (A : Option Addr) (n c : Nat) (fl : List Int), v = .slice A n c ∧ Rd2 w w.heap.size A n fl ∧ (n ≤ c ∧ c ≤ maxLen) := by
  obtain ⟨A, n, c, rfl⟩ := okWide_slice ht hv
  obtain ⟨fuel, hf⟩ := h
  rcases DataW.trod_slice ht hf with ⟨hcs, _⟩ | ⟨a, l, c', elems, rest, m, _, hcs, _, _, hl, hm, he, hel, _, _⟩
  · simp [Value.cells] at hcs
    obtain ⟨rfl, rfl, rfl⟩ := hcs
    exact ⟨none, 0, 0, [], rfl, ⟨rfl, fun h => absurd h (by omega)⟩, ⟨by omega, by omega⟩⟩
  · simp [Value.cells] at hcs
    obtain ⟨rfl, rfl, rfl⟩ := hcs
    have hall : ∀ i, i < n → ∃ s g : Int, w.cell? (a.add (i * 2)) = some (.int .i64 s) ∧ w.cell? ((a.add (i * 2)).add 1) = some (.int .i64 g) := by
      intro i hi
      have hb := hel i hi
      rw [List.getElem?_eq_getElem (by omega), hC] at hb
      obtain ⟨cs, hcs, htr⟩ := Option.bind_eq_some_iff.1 hb
      obtain ⟨s, g, rfl, _, _⟩ := two_of hs hone hC h0 h1 htr
      obtain ⟨_, _, hce⟩ := World.cells?_some hcs
      have q0 := hce 0 (by decide)
      have q1 := hce 1 (by decide)
      refine ⟨s, g, ?_, q1⟩
      have e : (a.add (i * 2)).add 0 = a.add (i * 2) := by unfold Addr.add; split <;> simp_all
      rw [e] at q0
      exact q0
    let fl : List Int := (List.range (n * 2)).map fun k => match w.cell? (a.add k) with
      | some (.int _ z) => z
      | _ => 0
    refine ⟨some a, n, c, fl, rfl, ⟨by simp [fl], fun hn => ?_⟩, hl, hm⟩
    obtain ⟨b, o, spot⟩ := a
    obtain ⟨s, g, hz, _⟩ := hall 0 hn
    have hspot : spot = none := by simpa [Addr.add] using World.cell?_spot hz
    subst hspot
    have hlt : b < w.heap.size := by
      rw [Addr.add_lit] at hz
      exact World.block_lt_of_cell? _ _ hz
    refine ⟨b, o, rfl, hlt, fun k hk => ?_⟩
    obtain ⟨s, g, hz0, hz1⟩ := hall (k / 2) (by omega)
    have hfl : ig fl k = match w.cell? (Addr.add ⟨b, o, none⟩ k) with
      | some (.int _ z) => z
      | _ => 0 := by simp [fl, ig, List.getD_eq_getElem?_getD, hk]
    rw [hfl]
    rw [Addr.add_lit]
    have hm2 : k % 2 = 0 ∨ k % 2 = 1 := by omega
    rcases hm2 with hm2 | hm2
    · rw [Addr.add_lit, show k / 2 * 2 = k by omega] at hz0
      rw [hz0]
    · rw [Addr.add_lit, Addr.add_lit, Nat.add_assoc, show k / 2 * 2 + 1 = k by omega] at hz1
      rw [hz1]
end
end Go.Proofs.Ytoodifpkconfcaa
