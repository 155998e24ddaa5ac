/- Own rows of structs, spots in order: small laws. -/
import Derived.Test.YtpcbfoddlpgdjaaRkI
import Derived.Test.YtpcbfoddlpgdjaaRkS
import Derived.Deep.CutRange
namespace Go.Proofs.Ytpcbfoddlpgdjaa
open Go.RowKit
theorem Rs.of_own0 {w : World} {base e sz n g cap : Nat} {css : List (List Value)} (h : w.ownsRow base e sz (.slice (some ⟨g, 0, none⟩) n cap) n css.flatten) (hl : ∀ c ∈ css, c.length = sz) (hn : css.length = n) :
    Rs w w.heap.size (some ⟨g, 0, none⟩) n sz css ∧ n ≤ cap ∧ cap ≤ maxLen := by
  rcases h.2 with ⟨q, _⟩ | ⟨g', cap', cur, ev, hg, hh, h1, h2, h3, ht⟩
  · injection q with q _ _; cases q
  · injection ev with q1 q2 q3
    injection q1 with q1; injection q1 with q1 _ _
    subst q1 q3
    refine ⟨⟨hn, hl, fun h0 => ?_⟩, h1, h2⟩
    obtain ⟨g2, cap2, ev2, _, _, hr⟩ := Rs.of_own h hl hn h0
    injection ev2 with e1 _ _
    injection e1 with e1; injection e1 with e1 _ _
    subst e1
    exact hr.2.2 h0
theorem take_stepX {α : Type} {l : List α} {k : Nat} {d : α} (h : l[k]? = some d) : l.take (k + 1) = l.take k ++ [d] := by rw [List.take_add_one, h]; rfl
theorem own_spAt {w : World} {base : Nat} {A : Option Addr} {n c : Nat} {l : List Sp} (h : w.ownsRow base 35 3 (.slice A n c) n (flatS l)) (hl : l.length = n) : SpAt w w.heap.size A n l ∧ (A = none → n = 0 ∧ c = 0) := by
  cases A with
  | none =>
    rcases h.2 with ⟨q, _⟩ | ⟨g, cap, cur, q, _⟩
    · injection q with q1 q2 q3
      subst q2 q3
      have : l = [] := List.eq_nil_of_length_eq_zero hl
      subst this
      exact ⟨SpAt.nil_, fun _ => ⟨rfl, rfl⟩⟩
    · cases q
  | some a =>
    refine ⟨?_, fun q => by cases q⟩
    rcases h.2 with ⟨q, _⟩ | ⟨g, cap, cur, q, _⟩
    · cases q
    · injection q with q1 q2 q3
      rw [q1] at h ⊢
      exact (Rs.of_own0 (css := l.map spL) h (fun c hc => by obtain ⟨x, _, rfl⟩ := List.mem_map.1 hc; rfl) (by simpa using hl)).1
theorem grow_bel {base : Nat} {a b : World} {r : Option Nat} (h : a.grownBy b r) (hr : ∀ k, r = some k → base ≤ k) (hb : base ≤ a.heap.size) : Below base a b :=
  ⟨h.os, h.tape, h.output, h.size, fun k hk => h.block k (by omega) (fun q => by have := hr k q.symm; omega)⟩
theorem sortSp_mem {l : List Sp} {x : Sp} : x ∈ sortSp l ↔ x ∈ l := (List.mergeSort_perm l _).mem_iff
theorem sortSp_pair (l : List Sp) : (sortSp l).Pairwise fun a b => ahB b a = false := by
  have := List.pairwise_mergeSort (le := fun x y => !ahB y x) (fun a b c h1 h2 => by
    simp only [Bool.not_eq_true'] at *
    rw [ahB_false] at *
    omega) (fun a b => by
    cases h : ahB b a
    · rfl
    · have h2 : ahB a b = false := by rw [ahB_false]; rw [ahB_iff] at h; omega
      rw [h2]; rfl) l
  exact this.imp (fun h => by simpa using h)
theorem sortSp_at {l : List Sp} {i j : Nat} {a b : Sp} (hij : i ≤ j) (hi : (sortSp l)[i]? = some a) (hj : (sortSp l)[j]? = some b) : ahB b a = false := by
  rcases Nat.eq_or_lt_of_le hij with rfl | hlt
  · rw [hi] at hj
    injection hj with hj
    subst hj
    rw [ahB_false]; omega
  · have hp := List.pairwise_iff_getElem.1 (sortSp_pair l)
    obtain ⟨h1, rfl⟩ := List.getElem?_eq_some_iff.1 hi
    obtain ⟨h2, rfl⟩ := List.getElem?_eq_some_iff.1 hj
    exact hp i j h1 h2 hlt
end Go.Proofs.Ytpcbfoddlpgdjaa
