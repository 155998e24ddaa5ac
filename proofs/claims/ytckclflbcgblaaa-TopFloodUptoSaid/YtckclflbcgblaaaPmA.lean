/- Planes: whether a node is right, by the document. -/
import Derived.Test.YtckclflbcgblaaaPlZ
import Derived.Deep.CutRange
namespace Go.Proofs.Ytckclflbcgblaaa
open Go.RowKit Go.Maps Go.ChangeMaps Go.MapKept
theorem shape_iff {d : ND} (h : shapeB d = true) : 0 ≤ d.level ∧ d.level ≤ 7 ∧ (d.ln : Int) = d.level + 1 := by
  unfold shapeB at h
  simp only [Bool.and_eq_true, Bool.not_eq_true', decide_eq_false_iff_not, bne_eq_false_iff_eq] at h
  omega
/-- A node's place in the plane's row. -/
theorem PgAt.ids {w : World} {B : Nat} {A : Option Addr} {n c : Nat} {ns : List ND} (h : PgAt w B A n c ns) {i : Nat} (hi : i < n) : ∃ b o, A = some ⟨b, o, none⟩ ∧ b < B ∧ w.cell? ⟨b, o + i * 7, none⟩ = some (.int .u64 (nAt ns i).id) := by
  obtain ⟨b, o, d, e, hb, hd, hr, _⟩ := h.node hi
  rw [nAt_of hd]
  exact ⟨b, o, e, hb, hr 0 _ rfl⟩
theorem ig_mem {xs : List Int} {k : Nat} (h : k < xs.length) : ig xs k ∈ xs := by
  unfold ig
  rw [List.getD_eq_getElem?_getD, List.getElem?_eq_getElem h]
  exact List.getElem_mem h
/-- A node's lists, at any world with all that lies here. -/
theorem ND.At.lstY {X : World} {d : ND} (h : d.At X X.heap.size) : Hid (∀ l, l < d.ln → ∃ b2 o2 lA m cc xs, d.LA = some ⟨b2, o2, none⟩ ∧ (lsAt d l).xs = xs ∧ m ≤ 1048576 ∧ m ≤ cc ∧ xs.length = m ∧ (lA = none → m = 0 ∧ cc = 0) ∧
    Hid (∀ Y, Below X.heap.size X Y → Y.cell? ⟨b2, o2 + l, none⟩ = some (.slice lA m cc)) ∧ Hid (∀ Y, Below X.heap.size X Y → Rd Y Y.heap.size lA m (xs.map (.int .i64))) ∧ Hid (∀ x ∈ xs, (Lit.int .i64 x).wf = true)) := by
  intro l hl
  obtain ⟨b2, o2, e, hb, hc, ha⟩ := nd_list h hl
  have hcap := h.cap hl
  refine ⟨b2, o2, (lsAt d l).A, (lsAt d l).n, (lsAt d l).c, (lsAt d l).xs, e, rfl, ha.2.1, hcap, ha.len, ha.1, fun Y hY => (hY.cell (p := ⟨b2, o2 + l, none⟩) hb).trans hc, fun Y hY => (ha.2.2.1.below hY).more hY.size, ha.2.2.2⟩
theorem PgAt.lstY {X : World} {A : Option Addr} {n c : Nat} {ns : List ND} (h : PgAt X X.heap.size A n c ns) {i : Nat} (hi : i < n) : ∃ b o LA ln lc, A = some ⟨b, o, none⟩ ∧ (nAt ns i).ln = ln ∧ ln ≤ 1048576 ∧
    Hid (∀ Y, Below X.heap.size X Y → Y.cell? ⟨b, o + i * 7 + 4, none⟩ = some (.slice LA ln lc)) ∧
    Hid (∀ l, l < ln → ∃ b2 o2 lA m cc xs, LA = some ⟨b2, o2, none⟩ ∧ (lsAt (nAt ns i) l).xs = xs ∧ m ≤ 1048576 ∧ m ≤ cc ∧ xs.length = m ∧ (lA = none → m = 0 ∧ cc = 0) ∧
      Hid (∀ Y, Below X.heap.size X Y → Y.cell? ⟨b2, o2 + l, none⟩ = some (.slice lA m cc)) ∧ Hid (∀ Y, Below X.heap.size X Y → Rd Y Y.heap.size lA m (xs.map (.int .i64))) ∧ Hid (∀ x ∈ xs, (Lit.int .i64 x).wf = true)) := by
  obtain ⟨b, o, e, hb, hc, ha⟩ := h.lists hi
  exact ⟨b, o, _, _, _, e, rfl, ha.2.2.1, fun Y hY => (hY.cell (p := ⟨b, o + i * 7 + 4, none⟩) hb).trans hc, ha.lstY⟩
theorem cast_beq (k s : Nat) : ((k : Int) == (s : Int)) = (k == s) := by
  rw [Bool.eq_iff_iff, beq_iff_eq, beq_iff_eq]; omega
theorem cast_bne (k s : Nat) : ((k : Int) != (s : Int)) = (k != s) := by unfold bne; rw [cast_beq]
theorem list_parts {ns : List ND} {slot level : Nat} {links : Int} {xs : List Int} {n : Nat} (h : (lsAt (nAt ns slot) level).xs = xs) (hn : ns.length = n) : listB ns slot level links = (rightB xs slot links level ((n : Int) - 1) && xs.all (backB ns slot level)) := by
  unfold listB; rw [h, hn]
end Go.Proofs.Ytckclflbcgblaaa
