/- Planes: Link. Printed by genPmP.py. -/
import Derived.Test.YtckclflbcgblaaaPmO
import Derived.Deep.CutRange
namespace Go.Proofs.Ytckclflbcgblaaa
open Go.RowKit Go.Maps Go.ChangeMaps Go.MapKept
def LinkR (ns : List ND) (links en tp a b level : Int) (w : World) (e : Ending) (w' : World) : Prop :=
  ∃ g n c ns', e = .returned (.tuple #[.agg (pgL (some ⟨g, 0, none⟩) n c en tp), .bool (linkB ns links en tp a b level)]) ∧ PgAt w' w'.heap.size (some ⟨g, 0, none⟩) n c ns' ∧ Eqv (if linkB ns links en tp a b level then linkSt ns a.toNat b.toNat level.toNat else ns) ns' ∧ Below w.heap.size w w'
theorem nAt_set_ne {ns : List ND} {i j : Nat} {d : ND} (h : i ≠ j) : nAt (ns.set i d) j = nAt ns j := by
  unfold nAt
  rw [List.getD_eq_getElem?_getD, List.getD_eq_getElem?_getD, List.getElem?_set_ne h]
theorem nAt_set_self {ns : List ND} {i : Nat} {d : ND} (h : i < ns.length) : nAt (ns.set i d) i = d := nAt_of (List.getElem?_set_self h)
theorem with_len (xs : List Int) (v : Int) : (withI xs v).length ≤ xs.length + 1 := by unfold withI; split <;> simp
theorem with_wf {xs : List Int} {v : Int} (h : ∀ x ∈ xs, (Lit.int .i64 x).wf = true) (hv : (Lit.int .i64 v).wf = true) : ∀ x ∈ withI xs v, (Lit.int .i64 x).wf = true := by
  unfold withI
  split
  · exact h
  · intro x hx
    rcases List.mem_append.1 hx with hx | hx
    · exact h x hx
    · rw [List.mem_singleton.1 hx]; exact hv
theorem store_ints {w : World} {b o : Nat} {u : Value} (h : w.cell? ⟨b, o, none⟩ = some u) (hf : w.frozen? ⟨b, o, none⟩ = false) {A : Option Addr} {n c : Nat} : (Instr.storeAt 23 (.pointer (some ⟨b, o, none⟩)) (.slice A n c)).run Try.prog w = .ok () (w.setCell ⟨b, o, none⟩ (.slice A n c)) := by
  simp [go_sem, h, hf]
theorem chk_level {ns : List ND} {links en tp : Int} (h : chkB ns links en tp = true) {i : Nat} (hi : thN ns i = true) : 0 ≤ (nAt ns i).level ∧ (nAt ns i).level ≤ 7 ∧ ((nAt ns i).ln : Int) = (nAt ns i).level + 1 := by
  obtain ⟨_, _, _, h4, _⟩ := chk_parts h
  rw [List.all_eq_true] at h4
  have hm : (i : Int) ∈ liveI ns := by
    unfold liveI lvI
    exact List.mem_map.2 ⟨i, List.mem_filter.2 ⟨List.mem_range.2 (thN_iff.1 hi).2.1, hi⟩, rfl⟩
  have := h4 _ hm
  rw [Int.toNat_natCast] at this
  unfold nodeB at this
  rw [Bool.and_eq_true, Bool.and_eq_true] at this
  exact shape_iff this.1.1
end Go.Proofs.Ytckclflbcgblaaa
