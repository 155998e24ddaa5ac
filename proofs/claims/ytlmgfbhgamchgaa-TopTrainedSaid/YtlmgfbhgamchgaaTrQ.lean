/- TopTrained: plain law: groups, costs, a step. -/
import Derived.Test.YtlmgfbhgamchgaaTrP
import Derived.Test.YtlmgfbhgamchgaaVecM
namespace Go.Proofs.Ytlmgfbhgamchgaa
/-- The greatest number. -/
def topN : Nat := 18446744073709551615
/-- A vector's group, and how far it is from its center. -/
def gOf (cs : List (List Int)) (v : List Int) : Nat × Nat := grpL (fun j => distE v (lg cs j)) (cs.length - 1)
def costL (vs cs : List (List Int)) : Nat := heldS topN (vs.map fun v => (gOf cs v).2)
def farL (vs : List (List Int)) (c : List Int) : Nat := heldS topN (vs.map fun v => distE v c)
def memL (vs cs : List (List Int)) (j : Nat) : List (List Int) := vs.filter fun v => (gOf cs v).1 == j
def nextC (n : Nat) (vs cs : List (List Int)) (j : Nat) : List Int :=
  if (memL vs cs j).length ≠ 0 ∧ farL (memL vs cs j) (meanL (memL vs cs j) n) < farL (memL vs cs j) (lg cs j) then meanL (memL vs cs j) n else lg cs j
def stepL (n : Nat) (vs cs : List (List Int)) : List (List Int) := (List.range cs.length).map (nextC n vs cs)
theorem step_len (n : Nat) (vs cs : List (List Int)) : (stepL n vs cs).length = cs.length := by simp [stepL]
theorem step_lg {n : Nat} {vs cs : List (List Int)} {j : Nat} (h : j < cs.length) : lg (stepL n vs cs) j = nextC n vs cs j := by
  rw [lg, stepL, List.getD_eq_getElem?_getD, List.getElem?_map, List.getElem?_range h]; rfl
theorem gOf_lt {cs : List (List Int)} (v : List Int) (h : 0 < cs.length) : (gOf cs v).1 < cs.length := by
  have := (grpL_spec (fun j => distE v (lg cs j)) (cs.length - 1)).1
  unfold gOf; omega
theorem gOf_dist (cs : List (List Int)) (v : List Int) : (gOf cs v).2 = distE v (lg cs (gOf cs v).1) := (grpL_spec (fun j => distE v (lg cs j)) (cs.length - 1)).2.1
theorem gOf_le {cs : List (List Int)} (v : List Int) {j : Nat} (h : j < cs.length) : (gOf cs v).2 ≤ distE v (lg cs j) := (grpL_spec (fun j => distE v (lg cs j)) (cs.length - 1)).2.2.1 j (by omega)
/-- Behind a step all are no farther. -/
theorem step_le (n : Nat) (vs cs : List (List Int)) (hk : 0 < cs.length) : (vs.map fun v => (gOf (stepL n vs cs) v).2).sum ≤ (vs.map fun v => (gOf cs v).2).sum := by
  refine groups_le (fun v => (gOf cs v).1) _ _ cs.length vs (fun v _ => gOf_lt v hk) fun j hj => ?_
  have e1 : ((memL vs cs j).map fun v => (gOf cs v).2) = (memL vs cs j).map fun v => distE v (lg cs j) := by
    refine List.map_congr_left fun v hv => ?_
    have h2 : (gOf cs v).1 = j := by simpa using (List.mem_filter.1 hv).2
    rw [gOf_dist, h2]
  have e2 : ((memL vs cs j).map fun v => (gOf (stepL n vs cs) v).2).sum ≤ ((memL vs cs j).map fun v => distE v (nextC n vs cs j)).sum := by
    have : ∀ m : List (List Int), (m.map fun v => (gOf (stepL n vs cs) v).2).sum ≤ (m.map fun v => distE v (nextC n vs cs j)).sum := by
      intro m
      induction m with
      | nil => exact Nat.le_refl _
      | cons v m ih =>
        rw [List.map_cons, List.map_cons, List.sum_cons, List.sum_cons]
        have := gOf_le (cs := stepL n vs cs) v (j := j) (by rw [step_len]; exact hj)
        rw [step_lg hj] at this
        omega
    exact this _
  have e3 : ((memL vs cs j).map fun v => distE v (nextC n vs cs j)).sum ≤ ((memL vs cs j).map fun v => distE v (lg cs j)).sum := by
    unfold nextC
    split
    · rename_i h; exact heldS_lt h.2
    · exact Nat.le_refl _
  show ((memL vs cs j).map fun v => (gOf (stepL n vs cs) v).2).sum ≤ ((memL vs cs j).map fun v => (gOf cs v).2).sum
  rw [e1]
  omega
/-- A right vector. -/
def OkV (n : Nat) (xs : List Int) : Prop := xs.length = n ∧ ∀ i, -16777216 ≤ ig xs i ∧ ig xs i ≤ 16777216
theorem col_bd2 {zss : List (List Int)} {i : Nat} : ∀ k : Nat, (∀ j, j < k → -16777216 ≤ ig (lg zss j) i ∧ ig (lg zss j) i ≤ 16777216) → -((k : Int) * 16777216) ≤ colS zss i k ∧ colS zss i k ≤ (k : Int) * 16777216 := by
  intro k
  induction k with
  | zero => intro _; simp [colS]
  | succ k ih => intro h; have h1 := h k (Nat.lt_succ_self k); have h2 := ih (fun j hj => h j (by omega)); rw [colS]; omega
theorem lg_mem {zss : List (List Int)} {k : Nat} (h : k < zss.length) : lg zss k ∈ zss := by
  rw [lg, List.getD_eq_getElem?_getD, List.getElem?_eq_getElem h]; simp
theorem ok_mean {n : Nat} {zss : List (List Int)} (h : ∀ v ∈ zss, OkV n v) (h0 : zss.length ≠ 0) : OkV n (meanL zss n) := by
  refine ⟨mean_len _ _, fun i => ?_⟩
  by_cases hi : i < n
  · rw [mean_ig hi]
    obtain ⟨h1, h2⟩ := col_bd2 (zss := zss) (i := i) zss.length (fun j hj => (h _ (lg_mem hj)).2 i)
    have hp : (0 : Int) < (zss.length : Int) := by omega
    constructor
    · exact Int.le_ediv_of_mul_le hp (by omega)
    · exact Int.ediv_le_of_le_mul hp (by omega)
  · rw [ig, List.getD_eq_getElem?_getD, List.getElem?_eq_none (by rw [mean_len]; omega)]; exact ⟨by decide, by decide⟩
theorem ok_next {n : Nat} {vs cs : List (List Int)} (hv : ∀ v ∈ vs, OkV n v) (hc : ∀ c ∈ cs, OkV n c) {j : Nat} (hj : j < cs.length) : OkV n (nextC n vs cs j) := by
  unfold nextC
  split
  · rename_i h; exact ok_mean (fun v hm => hv v (List.mem_filter.1 hm).1) h.1
  · exact hc _ (lg_mem hj)
theorem ok_step {n : Nat} {vs cs : List (List Int)} (hv : ∀ v ∈ vs, OkV n v) (hc : ∀ c ∈ cs, OkV n c) : ∀ c ∈ stepL n vs cs, OkV n c := by
  intro c h
  obtain ⟨j, hj, rfl⟩ := List.mem_map.1 h
  exact ok_next hv hc (by simpa using hj)
theorem comp_ok {xs : List Int} : xs.any compB = false ↔ ∀ i, -16777216 ≤ ig xs i ∧ ig xs i ≤ 16777216 := by
  constructor
  · intro h i
    by_cases hi : i < xs.length
    · have hm : ig xs i ∈ xs := by rw [ig, List.getD_eq_getElem?_getD, List.getElem?_eq_getElem hi]; simp
      have := List.any_eq_false.1 h _ hm
      unfold compB at this
      simp at this
      omega
    · rw [ig, List.getD_eq_getElem?_getD, List.getElem?_eq_none (by omega)]; exact ⟨by decide, by decide⟩
  · intro h
    refine List.any_eq_false.2 fun x hx => ?_
    obtain ⟨i, hi, rfl⟩ := List.mem_iff_getElem.1 hx
    have := h i
    rw [ig, List.getD_eq_getElem?_getD, List.getElem?_eq_getElem hi] at this
    simp only [Option.getD_some] at this
    unfold compB
    simp
    omega
theorem chkV_ok {xs : List Int} {n : Nat} (h1 : 1 ≤ n) (h2 : n ≤ 4096) : chkV xs n = true ↔ OkV n xs := by
  unfold chkV OkV
  rw [Bool.and_eq_true, Bool.not_eq_true', comp_ok, decide_eq_true_iff]
  refine and_congr ⟨fun h => by omega, fun h => ⟨by omega, by omega, by omega⟩⟩ Iff.rfl
/-- Sums as the law's rounds make them. -/
def sumK (f : List Int → Nat) (vs : List (List Int)) (k : Nat) : Nat := ((vs.take k).map f).sum
theorem sumK_succ {f : List Int → Nat} {vs : List (List Int)} {k : Nat} (h : k < vs.length) : sumK f vs (k + 1) = sumK f vs k + f (lg vs k) := by
  unfold sumK
  rw [List.take_add_one, List.getElem?_eq_getElem h, List.map_append, List.sum_append, lg, List.getD_eq_getElem?_getD, List.getElem?_eq_getElem h]
  simp
theorem sumK_all (f : List Int → Nat) (vs : List (List Int)) : sumK f vs vs.length = (vs.map f).sum := by unfold sumK; rw [List.take_length]
/-- Sums that are held, as far as a place. -/
def hK (f : List Int → Nat) (vs : List (List Int)) (k : Nat) : Nat := heldS topN ((vs.take k).map f)
theorem hK_succ {f : List Int → Nat} {vs : List (List Int)} {k : Nat} (h : k < vs.length) : hK f vs (k + 1) = min (hK f vs k + f (lg vs k)) topN := by
  unfold hK
  rw [heldS_eq, heldS_eq, List.take_add_one, List.getElem?_eq_getElem h, List.map_append, List.sum_append, lg, List.getD_eq_getElem?_getD, List.getElem?_eq_getElem h]
  simp
  omega
theorem hK_all (f : List Int → Nat) (vs : List (List Int)) : hK f vs vs.length = heldS topN (vs.map f) := by unfold hK; rw [List.take_length]
theorem hK_le (f : List Int → Nat) (vs : List (List Int)) (k : Nat) : hK f vs k ≤ topN := by unfold hK; rw [heldS_eq]; omega
theorem dist_top (a b : List Int) : distE a b ≤ topN := by unfold distE topN; omega
end Go.Proofs.Ytlmgfbhgamchgaa
