/- Parts of slices: what 's[:k]' and 's[k:]' are, under a name; what they read as. -/
import Derived.Test.YtillmlaoppibfaaDoorMem
namespace Go.Proofs.YtillmlaoppibfaaDoor
open Go.RowKit
/-- Where 's[k:]' begins, of a slice with room for c. -/
def subA (A : Option Addr) (k c : Nat) : Option Addr := if c = k then A else A.map (·.add (k * 1))
section
variable {P : Program} {t e : TypeId}
theorem run_hi (ht : P.underlying t = some (.slice e)) (hsz : ∀ w, (sizeOf (P.elem t)).run P w = .ok 1 w) (A : Option Addr) (m c k : Nat) (hk : k ≤ c) (w : World) :
    (Instr.slice t (.slice A m c) none (some (.int .i64 k)) none).run P w = .ok (.slice A k c) w := by
  have he : P.underlying t = some (.slice (P.elem t)) := by unfold Program.elem; rw [ht]
  rw [run_slice_h w t A m c he .i64 k (by omega) (by omega), hsz]
  simp only [Result.andThen, sliced, Int.toNat_natCast, Nat.zero_mul, Nat.sub_zero]
  congr 1
  split
  · rfl
  · cases A <;> simp [Addr.add]
theorem run_from (ht : P.underlying t = some (.slice e)) (hsz : ∀ w, (sizeOf (P.elem t)).run P w = .ok 1 w) (A : Option Addr) (m c k : Nat) (hk : k ≤ m) (w : World) :
    (Instr.slice t (.slice A m c) (some (.int .i64 k)) none none).run P w = .ok (.slice (subA A k c) (m - k) (c - k)) w := by
  have he : P.underlying t = some (.slice (P.elem t)) := by unfold Program.elem; rw [ht]
  rw [run_slice_l w t A m c he .i64 k (by omega) (by omega), hsz]
  simp only [Result.andThen, sliced, Int.toNat_natCast]
  rfl
end
theorem Rd.take1 {w : World} {L m k : Nat} {A : Option Addr} {kd : IntKind} {zs : List Int} (h : Rd w L A m (zs.map (.int kd))) (hk : k ≤ m) : Rd w L A k ((zs.take k).map (.int kd)) := by
  refine ⟨by have := h.lenI; simp; omega, fun hn => ?_⟩
  obtain ⟨b, o, e, hb, hc⟩ := h.2 (by omega)
  refine ⟨b, o, e, hb, fun j u hu => hc j u ?_⟩
  rw [List.getElem?_map, List.getElem?_take] at hu
  rw [List.getElem?_map]
  split at hu
  · exact hu
  · cases hu
theorem Rd.drop1 {w : World} {L m c k : Nat} {A : Option Addr} {kd : IntKind} {zs : List Int} (h : Rd w L A m (zs.map (.int kd))) (hk : k ≤ m) (hc : m ≤ c) : Rd w L (subA A k c) (m - k) ((zs.drop k).map (.int kd)) := by
  refine ⟨by have := h.lenI; simp; omega, fun hn => ?_⟩
  obtain ⟨b, o, e, hb, hcell⟩ := h.2 (by omega)
  refine ⟨b, o + k, by unfold subA; rw [if_neg (by omega), e]; simp [Addr.add], hb, fun j u hu => ?_⟩
  rw [List.getElem?_map, List.getElem?_drop] at hu
  rw [Nat.add_assoc]
  exact hcell (k + j) u (by rw [List.getElem?_map]; exact hu)
theorem ig_drop (l : List Int) (k i : Nat) : ig (l.drop k) i = ig l (k + i) := by
  rw [ig, ig, List.getD_eq_getElem?_getD, List.getD_eq_getElem?_getD, List.getElem?_drop]
theorem ig_take1 {l : List Int} {k i : Nat} (h : i < k) : ig (l.take k) i = ig l i := by
  rw [ig, ig, List.getD_eq_getElem?_getD, List.getD_eq_getElem?_getD, List.getElem?_take, if_pos h]
end Go.Proofs.YtillmlaoppibfaaDoor
