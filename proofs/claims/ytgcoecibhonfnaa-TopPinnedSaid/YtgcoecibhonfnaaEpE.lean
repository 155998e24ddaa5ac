/- The document's clock: walks of its steps (more printed by genEpE.py in XEpX). -/
import Derived.Test.YtgcoecibhonfnaaEpG
namespace Go.Proofs.Ytgcoecibhonfnaa
open Go.RowKit
/-- A slice does not lie in the blocks of S. -/
def Off (S : Nat → Prop) (A : Option Addr) (n : Nat) : Prop := 0 < n → ∀ a : Addr, A = some a → ¬ S a.block
theorem Off.fresh {S : Nat → Prop} {g n : Nat} (h : ¬ S g) : Off S (some ⟨g, 0, none⟩) n := fun _ a ha => by injection ha with ha; rw [← ha]; exact h
theorem Rd.far {w w' : World} {A : Option Addr} {n : Nat} {xs : List Value} {S : Nat → Prop} (h : Rd w w.heap.size A n xs) (ho : Off S A n) (ht : Tch S w w') : Rd w' w'.heap.size A n xs := by
  refine ⟨h.1, fun hn => ?_⟩
  obtain ⟨b, o, e, hb, hc⟩ := h.2 hn
  have hs := ho hn _ e
  exact ⟨b, o, e, Nat.lt_of_lt_of_le hb ht.size, fun k u hu => (ht.cell (p := ⟨b, o + k, none⟩) hb hs).trans (hc k u hu)⟩
theorem Rd2.far {w w' : World} {A : Option Addr} {n : Nat} {fl : List Int} {S : Nat → Prop} (h : Rd2 w w.heap.size A n fl) (ho : Off S A n) (ht : Tch S w w') : Rd2 w' w'.heap.size A n fl := by
  refine ⟨h.1, fun hn => ?_⟩
  obtain ⟨b, o, e, hb, hc⟩ := h.2 hn
  have hs := ho hn _ e
  exact ⟨b, o, e, Nat.lt_of_lt_of_le hb ht.size, fun k hk => (ht.cell (p := ⟨b, o + k, none⟩) hb hs).trans (hc k hk)⟩
/-- The document's clock, as a value. -/
def cV (e a : Nat) (L R M : Value) : Value := .agg #[.int .i64 e, L, R, M, .int .i64 a]
theorem int_info : ∃ i z, Try.prog.info? 3 = some i ∧ i.zero = some z ∧ i.size = 1 ∧ i.bytes = 8 ∧ z.cells.size = 1 := by
  have h : (Try.prog.info? 3).map (fun i => (i.zero.map Value.cells, i.size, i.bytes)) = some (some #[.int .i64 0], 1, 8) := by kernel_rfl
  obtain ⟨i, hi, hzz⟩ := Option.map_eq_some_iff.1 h
  simp only [Prod.mk.injEq] at hzz
  obtain ⟨hz, hs, hb⟩ := hzz
  obtain ⟨z, hz1, hz2⟩ := Option.map_eq_some_iff.1 hz
  exact ⟨i, z, hi, hz1, hs, hb, by rw [hz2]; rfl⟩
def c0s : Array Value := #[.int .i64 0, .slice none 0 0, .slice none 0 0, .slice none 0 0, .int .i64 0]
section
variable {w0 w w' : World} {b : Nat} {cs zs : Array Value}
def put5 (w : World) (b : Nat) (c0 c1 c2 c3 c4 : Value) : World := ((((w.setCell ⟨b, 0, none⟩ c0).setCell ⟨b, 1, none⟩ c1).setCell ⟨b, 2, none⟩ c2).setCell ⟨b, 3, none⟩ c3).setCell ⟨b, 4, none⟩ c4
theorem put5_tch (w : World) (b : Nat) (c0 c1 c2 c3 c4 : Value) : Tch (fun k => k = b) w (put5 w b c0 c1 c2 c3 c4) :=
  (((((Tch.refl (fun k => k = b) w).setCell (g := b) rfl 0 c0).setCell (g := b) rfl 1 c1).setCell (g := b) rfl 2 c2).setCell (g := b) rfl 3 c3).setCell (g := b) rfl 4 c4
end
end Go.Proofs.Ytgcoecibhonfnaa
