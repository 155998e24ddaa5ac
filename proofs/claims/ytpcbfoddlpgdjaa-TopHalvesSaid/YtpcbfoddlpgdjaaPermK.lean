/- Another order has each number once. -/
import Derived.Test.YtpcbfoddlpgdjaaPerm
namespace Go.Proofs.Ytpcbfoddlpgdjaa
open Go.RowKit
/-- Each of the numbers below n is there once. -/
def PermOK (n : Nat) (l : List Int) : Prop := l.length = n ∧ (∀ j, j < n → 0 ≤ ig l j ∧ ig l j < n) ∧ ∀ j j', j < n → j' < n → ig l j = ig l j' → j = j'
theorem permOK_upto (n : Nat) : PermOK n (upto n) := by
  have e : ∀ j, j < n → ig (upto n) j = j := fun j hj => by simp [ig, upto, List.getD_eq_getElem?_getD, hj]
  exact ⟨len_upto n, fun j hj => by rw [e j hj]; omega, fun j j' hj hj' h => by rw [e j hj, e j' hj'] at h; omega⟩
theorem ig_swap {l : List Int} {i k j : Nat} (hi : i < l.length) (hk : k < l.length) : ig (swapI l i k) j = if k = j then ig l i else if i = j then ig l k else ig l j := by
  rw [swapI, ig_set (by rw [List.length_set]; exact hk), ig_set hi]
theorem permOK_swap {n : Nat} {l : List Int} {i k : Nat} (h : PermOK n l) (hi : i < n) (hk : k < n) : PermOK n (swapI l i k) := by
  obtain ⟨hl, hr, hu⟩ := h
  refine ⟨by rw [len_swap, hl], fun j hj => ?_, fun j j' hj hj' => ?_⟩
  · rw [ig_swap (by omega) (by omega)]
    split
    · exact hr i hi
    · split
      · exact hr k hk
      · exact hr j hj
  · rw [ig_swap (by omega) (by omega), ig_swap (by omega) (by omega)]
    intro h
    split at h <;> split at h <;> (try split at h) <;> (try split at h) <;> first
      | omega
      | (have := hu _ _ (by assumption) (by assumption) h; omega)
theorem permOK_from (n : Nat) (seed : Int) : ∀ (i : Nat) (l : List Int), i < n → PermOK n l → PermOK n (permFrom seed i l) := by
  intro i
  induction i with
  | zero => intro l _ h; exact h
  | succ i ih => intro l hi h; exact ih _ (by omega) (permOK_swap h hi (by have := permK_le seed (i + 1); omega))
theorem permOK_perm (seed : Int) (n : Nat) : PermOK n (permI seed n) := by
  rcases Nat.eq_zero_or_pos n with h | h
  · subst h; exact ⟨rfl, fun j hj => by omega, fun j j' hj => by omega⟩
  · exact permOK_from n seed (n - 1) _ (by omega) (permOK_upto n)
def PermRet (n : Nat) (w : World) (e : Ending) (w' : World) : Prop :=
  ∃ L A c, e = .returned (.slice A n c) ∧ Rd w' w'.heap.size A n (L.map (.int .i64)) ∧ PermOK n L ∧ Below w.heap.size w w'
theorem rng_perm_ok (seed n : Int) (w : World) : Calls Try.prog 17 #[.int .u64 seed, .int .i64 n] w (PermRet (permLen n) w) :=
  (rng_perm seed n w).mono fun e w' ⟨⟨A, c, he, _, hr⟩, hb⟩ => ⟨_, A, c, by rw [len_perm] at he; exact he, by rw [len_perm] at hr; exact hr, permOK_perm _ _, hb⟩
theorem rng_perm_okA (seed n : Int) (w : World) : Calls Try.prog 17 #[.int .u64 seed, .int .i64 n] w (fun e w' => ∃ L c, e = .returned (.slice (some ⟨w.heap.size, 0, none⟩) (permLen n) c) ∧ Rd w' w'.heap.size (some ⟨w.heap.size, 0, none⟩) (permLen n) (L.map (.int .i64)) ∧ PermOK (permLen n) L ∧ Below w.heap.size w w') :=
  (rng_permA seed n w).mono fun _ _ ⟨⟨c, he, _, hr⟩, hb⟩ => ⟨_, c, by rw [len_perm] at he; exact he, by rw [len_perm] at hr; exact hr, permOK_perm _ _, hb⟩
end Go.Proofs.Ytpcbfoddlpgdjaa
