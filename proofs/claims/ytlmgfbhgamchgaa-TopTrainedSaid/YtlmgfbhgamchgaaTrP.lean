/- TopTrained: plain law, the beginning: sums that are held, sums by groups. -/
import Derived.Test.YtlmgfbhgamchgaaMem
namespace Go.Proofs.Ytlmgfbhgamchgaa
/-- A sum, held at the greatest number. -/
def heldS (M : Nat) (l : List Nat) : Nat := l.foldl (fun s d => min (s + d) M) 0
theorem heldS_from (M : Nat) : ∀ (l : List Nat) (s : Nat), l.foldl (fun s d => min (s + d) M) (min s M) = min (s + l.sum) M
  | [], s => by simp
  | d :: l, s => by
    have e : min (min s M + d) M = min (s + d) M := by omega
    rw [List.foldl_cons, e, heldS_from M l (s + d), List.sum_cons, Nat.add_assoc]
theorem heldS_eq (M : Nat) (l : List Nat) : heldS M l = min l.sum M := by
  have := heldS_from M l 0
  rw [Nat.zero_min, Nat.zero_add] at this
  exact this
theorem heldS_lt {M : Nat} {a b : List Nat} (h : heldS M a < heldS M b) : a.sum ≤ b.sum := by
  rw [heldS_eq, heldS_eq] at h
  omega
/-- What is no more in each group is no more together. -/
theorem groups_le {V : Type} (g : V → Nat) (f h : V → Nat) : ∀ (k : Nat) (l : List V), (∀ v ∈ l, g v < k) → (∀ j, j < k → ((l.filter fun v => g v == j).map f).sum ≤ ((l.filter fun v => g v == j).map h).sum) → (l.map f).sum ≤ (l.map h).sum
  | 0, [], _, _ => Nat.le_refl _
  | 0, v :: l, hk, _ => absurd (hk v List.mem_cons_self) (Nat.not_lt_zero _)
  | k + 1, l, hk, hj => by
    have split : ∀ (q : V → Nat) (m : List V), (m.map q).sum = ((m.filter fun v => g v == k).map q).sum + ((m.filter fun v => !(g v == k)).map q).sum := by
      intro q m
      induction m with
      | nil => rfl
      | cons v m ih =>
        rw [List.map_cons, List.sum_cons, ih, List.filter_cons, List.filter_cons]
        by_cases e : (g v == k) = true
        · rw [if_pos e, if_neg (by rw [e]; decide), List.map_cons, List.sum_cons]; omega
        · rw [if_neg e, if_pos (by simpa using e), List.map_cons, List.sum_cons]; omega
    rw [split f l, split h l]
    refine Nat.add_le_add (hj k (Nat.lt_succ_self k)) (groups_le g f h k _ (fun v hv => ?_) (fun j hjk => ?_))
    · have h1 := List.mem_filter.1 hv
      have h2 := hk v h1.1
      have h3 : g v ≠ k := by simpa using h1.2
      omega
    · have e : ∀ q : V → Nat, (((l.filter fun v => !(g v == k)).filter fun v => g v == j).map q).sum = ((l.filter fun v => g v == j).map q).sum := fun q => by
        rw [List.filter_filter]
        congr 2
        refine List.filter_congr fun v _ => ?_
        by_cases e : g v = j
        · have : g v ≠ k := by omega
          simp [e]; omega
        · simp [e]
      rw [e f, e h]
      exact hj j (Nat.lt_succ_of_lt hjk)
/-- The first least of the distances up to a place, and how far it is. -/
def grpL (d : Nat → Nat) : Nat → Nat × Nat
  | 0 => (0, d 0)
  | i + 1 => if d (i + 1) < (grpL d i).2 then (i + 1, d (i + 1)) else grpL d i
theorem grpL_spec (d : Nat → Nat) : ∀ i, (grpL d i).1 ≤ i ∧ (grpL d i).2 = d (grpL d i).1 ∧ (∀ j, j ≤ i → (grpL d i).2 ≤ d j) ∧ (∀ j, j < (grpL d i).1 → (grpL d i).2 < d j)
  | 0 => ⟨Nat.le_refl _, rfl, fun j hj => (by obtain rfl : j = 0 := by omega
                                              exact Nat.le_refl _), fun j hj => absurd hj (Nat.not_lt_zero _)⟩
  | i + 1 => by
    obtain ⟨h1, h2, h3, h4⟩ := grpL_spec d i
    unfold grpL
    split
    · rename_i h
      refine ⟨Nat.le_refl _, rfl, fun j hj => ?_, fun j hj => ?_⟩
      · by_cases e : j = i + 1
        · subst e; exact Nat.le_refl _
        · have := h3 j (by omega); show d (i + 1) ≤ d j; omega
      · have := h3 j (by have : j < i + 1 := hj; omega); show d (i + 1) < d j; omega
    · rename_i h
      refine ⟨by omega, h2, fun j hj => ?_, h4⟩
      by_cases e : j = i + 1
      · subst e; omega
      · exact h3 j (by omega)
/-- Whoever is the first least is that one. -/
theorem grpL_first {d : Nat → Nat} {i m : Nat} (hm : m ≤ i) (h1 : ∀ j, j ≤ i → d m ≤ d j) (h2 : ∀ j, j < m → d m < d j) : (grpL d i).1 = m := by
  obtain ⟨k1, k2, k3, k4⟩ := grpL_spec d i
  have a := k3 m hm
  have b := h1 _ k1
  by_cases e : (grpL d i).1 < m
  · have := h2 _ e; omega
  · by_cases e' : m < (grpL d i).1
    · have := k4 m e'; omega
    · omega
end Go.Proofs.Ytlmgfbhgamchgaa
