/- Walk of the reference of bitset.Of. -/
import Derived.Test.YtokgcjhlmohjgaaDoorBitR
namespace Go.Proofs.YtokgcjhlmohjgaaDoor
open Go.RowKit
theorem ig_app_zero (cs : List Int) (z i : Nat) : ig (cs ++ List.replicate z 0) i = ig cs i := by
  rw [ig, ig, List.getD_eq_getElem?_getD, List.getD_eq_getElem?_getD]
  rcases Nat.lt_or_ge i cs.length with q | q
  · rw [List.getElem?_append_left q]
  · rw [List.getElem?_append_right q, List.getElem?_replicate, List.getElem?_eq_none q]
    split <;> rfl
theorem hasB_app (cs : List Int) (z n : Nat) : hasB (cs ++ List.replicate z 0) n = hasB cs n := by unfold hasB wg; rw [ig_app_zero]
theorem or_add (x r : Nat) (h : x.testBit r = false) : x + 2 ^ r = x ||| 2 ^ r := by
  have hp : 0 < 2 ^ r := Nat.two_pow_pos r
  have h2 : x / 2 ^ r % 2 = 0 := by
    rw [Nat.testBit_eq_decide_div_mod_eq] at h
    have := of_decide_eq_false h
    omega
  obtain ⟨a, ha⟩ : ∃ a, x / 2 ^ r = 2 * a := ⟨x / 2 ^ r / 2, by omega⟩
  have hx : x = 2 ^ r * (2 * a) + x % 2 ^ r := by rw [← ha]; exact (Nat.div_add_mod x (2 ^ r)).symm
  have hx' : x + 2 ^ r = 2 ^ r * (2 * a + 1) + x % 2 ^ r := by rw [Nat.mul_add, Nat.mul_one]; omega
  have hlt : x % 2 ^ r < 2 ^ r := Nat.mod_lt _ hp
  apply Nat.eq_of_testBit_eq
  intro i
  rw [Nat.testBit_or, Nat.testBit_two_pow, hx', Nat.testBit_two_pow_mul_add _ hlt]
  conv => rhs; rw [hx]
  rw [Nat.testBit_two_pow_mul_add _ hlt]
  split
  · rename_i hi; simp; omega
  · rename_i hi
    rcases Nat.eq_or_lt_of_le (Nat.le_of_not_lt hi) with e | e
    · subst e; simp [Nat.testBit_zero]
    · obtain ⟨d, rfl⟩ : ∃ d, i = r + (d + 1) := ⟨i - r - 1, by omega⟩
      rw [show r + (d + 1) - r = d + 1 by omega, Nat.testBit_succ, Nat.testBit_succ, show (2 * a + 1) / 2 = a by omega, show 2 * a / 2 = a by omega]
      have : decide (r = r + (d + 1)) = false := by simp
      rw [this, Bool.or_false]
/-- One number more. -/
theorem canon_add {l : List Int} {k x z : Nat} {cs : List Int} (h : Canon (inL (l.take k)) cs) (hk : k < l.length) (hx : ig l k = x) (hx4 : x < 4096) (hn : hasB cs x = false) (hz : cs.length + z = max cs.length (x / 64 + 1)) :
    Canon (inL (l.take (k + 1))) ((cs ++ List.replicate z 0).set (x / 64) ((wg cs (x / 64) + 2 ^ (x % 64) : Nat) : Int)) := by
  obtain ⟨h1, h2, h3, h4⟩ := h
  have hlen : (cs ++ List.replicate z 0).length = max cs.length (x / 64 + 1) := by rw [List.length_append, List.length_replicate]; exact hz
  have hw := wg_nat h1 (x / 64)
  have ho : wg cs (x / 64) + 2 ^ (x % 64) = wg cs (x / 64) ||| 2 ^ (x % 64) := or_add _ _ hn
  refine ⟨fun y hy => ?_, ?_, fun n hn4 => ?_, ?_⟩
  · rcases List.mem_or_eq_of_mem_set hy with q | rfl
    · rcases List.mem_append.1 q with q | q
      · exact h1 y q
      · obtain ⟨_, rfl⟩ := List.mem_replicate.1 q; exact ⟨by decide, by decide⟩
    · rw [ho]; exact word_of_nat (or_bit _ _ hw.2 (Nat.mod_lt _ (by decide)))
  · rw [List.length_set, hlen]; omega
  · rw [hasB_set (by rw [hlen]; omega), take_step hk, hx]
    have e : inL (l.take k ++ [(x : Int)]) n = (inL (l.take k) n || decide (n = x)) := by
      unfold inL
      rw [← Bool.decide_or, decide_eq_decide, List.mem_append, List.mem_singleton]
      constructor
      · rintro (h | h)
        · exact Or.inl h
        · exact Or.inr (by omega)
      · rintro (h | h)
        · exact Or.inl h
        · exact Or.inr (by omega)
    rw [e, ← h3 n hn4]
    split
    · rename_i hd
      rw [Int.toNat_natCast, ho, Nat.testBit_or, Nat.testBit_two_pow, hasB, hd]
      congr 1
      rw [decide_eq_decide]
      omega
    · rename_i hd
      rw [hasB_app, show decide (n = x) = false from decide_eq_false (fun e => hd (by rw [e])), Bool.or_false]
  · right
    rw [List.length_set, hlen, ig_set (by rw [hlen]; omega)]
    split
    · have := Nat.two_pow_pos (x % 64); omega
    · rename_i hne
      rw [ig_app_zero]
      have hgt : x / 64 + 1 ≤ cs.length := by omega
      rw [Nat.max_eq_left hgt]
      rcases h4 with rfl | h4
      · simp at hgt
      · exact h4
theorem canon_skip {l : List Int} {k : Nat} {cs : List Int} (h : Canon (inL (l.take k)) cs) (hk : k < l.length) (hx : (ig l k < 0 ∨ 4096 ≤ ig l k) ∨ ∃ x : Nat, ig l k = x ∧ hasB cs x = true ∧ x < 4096) : Canon (inL (l.take (k + 1))) cs := by
  refine canon_congr h fun n hn => ?_
  rw [take_step hk]
  unfold inL
  rw [decide_eq_decide, List.mem_append, List.mem_singleton]
  constructor
  · exact Or.inl
  · rintro (h' | h')
    · exact h'
    · rcases hx with hx | ⟨x, hx, hh, hx4⟩
      · omega
      · have : n = x := by omega
        subst this
        rw [h.2.2.1 n hx4] at hh
        exact of_decide_eq_true hh
theorem own_none {w : World} {base t n d : Nat} {xs : List Value} {B : Option Addr} (h : w.ownsRow base t 1 (.slice B n d) n xs) : B = none → d = 0 := by
  rintro rfl
  rcases h.2 with ⟨h1, _⟩ | ⟨g, cap, cur, h1, _⟩
  · injection h1
  · injection h1 with h1; cases h1
/-- How long a slice is. -/
def lenOf : Value → Nat
  | .slice _ n _ => n
  | _ => 0
theorem lenOf_slice (A : Option Addr) (n c : Nat) : lenOf (.slice A n c) = n := rfl
end Go.Proofs.YtokgcjhlmohjgaaDoor
