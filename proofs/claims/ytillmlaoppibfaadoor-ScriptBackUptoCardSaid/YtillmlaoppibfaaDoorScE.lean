/- Scripts: what of the library's variables is needed; numbers as words, by the program. -/
import Derived.Test.YtillmlaoppibfaaDoorScL
import Derived.Test.YtillmlaoppibfaaDoorScP
import Derived.Test.YtillmlaoppibfaaDoorRow
import Derived.WalkSmall
import Derived.WalkKit
import Derived.Lib.Hide
namespace Go.Proofs.YtillmlaoppibfaaDoor
open Go.RowKit Go.Sort
/-- What the library's variables hold. -/
structure Env (w : World) : Prop where
  tab : Lib.TabIs Tryd.prog w "internal/strconv.uint64pow10" .u64 Lib.pow10Tab
  sx : ∃ ev, w.cell? ⟨4, 0, none⟩ = some ev ∧ (ev = .nilIface ∨ ∃ te pe, ev = .iface te pe)
  rg : ∃ ev, w.cell? ⟨5, 0, none⟩ = some ev ∧ (ev = .nilIface ∨ ∃ te pe, ev = .iface te pe)
  ml : ∃ m, w.cell? ⟨0, 0, none⟩ = some (.int .i64 m)
  lo : 8 ≤ w.heap.size
theorem g_tab : Tryd.prog.globalNamed "internal/strconv.uint64pow10" = some 1 := by kernel_rfl
theorem var_keep {P : Program} {w w' : World} {n : String} {g B : Nat} {cs : Array Value} (h : w.var? P n = some cs) (hg : P.globalNamed n = some g) (hb : Below B w w') (hlt : g < B) : w'.var? P n = some cs := by
  unfold World.var? at h ⊢
  rw [hg] at h ⊢
  simp only [Option.bind_some] at h ⊢
  rw [hb.block g hlt]
  exact h
theorem Env.below {B : Nat} {w w' : World} (h : Env w) (hb : Below B w w') (hB : 8 ≤ B) : Env w' := by
  obtain ⟨h1, ⟨e2, h2, f2⟩, ⟨e3, h3, f3⟩, ⟨m, h4⟩, h5⟩ := h
  exact ⟨var_keep h1 g_tab hb (by omega), ⟨e2, (hb.cell (p := ⟨4, 0, none⟩) (show 4 < B by omega)).trans h2, f2⟩, ⟨e3, (hb.cell (p := ⟨5, 0, none⟩) (show 5 < B by omega)).trans h3, f3⟩, ⟨m, (hb.cell (p := ⟨0, 0, none⟩) (show 0 < B by omega)).trans h4⟩, Nat.le_trans h5 hb.size⟩
theorem Env.on {w w' : World} (h : Env w) (hb : Below w.heap.size w w') : Env w' := h.below hb h.lo
theorem below_grow (w : World) (k : Nat) (os : Array Obj) : Below w.heap.size w (grow (w.drewN k) os) :=
  ⟨rfl, rfl, rfl, by show w.heap.size ≤ (w.heap ++ os).size; rw [Array.size_append]; omega, fun i hi => by
    show (w.heap ++ os)[i]? = _
    rw [Array.getElem?_append_left hi]⟩
theorem below_bytes (w : World) (t : TypeId) (s : ByteArray) : Below w.heap.size w (Lib.bytesWorld w t s) := by
  unfold Lib.bytesWorld
  exact Lib.below_freeze ((Below.refl _ w).drew.alloc (Nat.le_refl _) _) (Nat.le_refl _) _
/-- strconv.FormatInt. -/
theorem sc_itoa (z : Int) (h : -9223372036854775808 ≤ z ∧ z ≤ 9223372036854775807) (w : World) (he : Env w) :
    Calls Tryd.prog 22 #[.int .i64 z, .int .i64 10] w fun e w' => e = .returned (.string ⟨(Lib.itoa z).toArray⟩) ∧ Below w.heap.size w w' := by
  refine (sh_strconv_FormatInt_10 z h.1 h.2 w he.tab).mono ?_
  rintro e w' ⟨rfl, k, os, rfl⟩
  exact ⟨rfl, below_grow w k os⟩
/-- A word's number, up to most. -/
def numO (l : List UInt8) (most : Nat) : Option Nat :=
  match Lib.parseUintB 64 l with
  | .ok u => if u ≤ most ∧ Lib.decDigits u = l then some u else none
  | _ => none
/-- A component. -/
def intO (l : List UInt8) : Option Int :=
  match Lib.parseIntB 32 l with
  | .ok z => if Lib.itoa z = l then some z else none
  | _ => none
theorem numO_dec {u most : Nat} (h : u ≤ most) (hm : most ≤ 18446744073709551615) : numO (Lib.decDigits u) most = some u := by
  unfold numO
  rw [Lib.parseUintB_64, parse_dec (by omega)]
  simp [h]
theorem numO_some {l : List UInt8} {u most : Nat} (h : numO l most = some u) : u ≤ most ∧ Lib.decDigits u = l := by
  unfold numO at h
  split at h
  · split at h
    · rename_i q
      injection h with h
      subst h
      exact q
    · cases h
  · cases h
theorem intO_itoa {z : Int} (h : -2147483648 ≤ z ∧ z ≤ 2147483647) : intO (Lib.itoa z) = some z := by
  unfold intO
  rw [parse_itoa h]
  simp
theorem intO_some {l : List UInt8} {z : Int} (h : intO l = some z) : Lib.itoa z = l ∧ -2147483648 ≤ z ∧ z ≤ 2147483647 := by
  unfold intO at h
  split at h
  · rename_i y hy
    split at h
    · rename_i q
      injection h with h
      subst h
      have hb := Lib.parseIntB_bounds hy
      simp at hb
      exact ⟨q, by omega, by omega⟩
    · cases h
  · cases h
end Go.Proofs.YtillmlaoppibfaaDoor
