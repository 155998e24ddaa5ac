/- Plain laws of package bitset: words as sets of numbers; their lists; one form for each set. -/
import Derived.Test.YtlmgfbhgamchgaaMem
import Derived.Test.YtlmgfbhgamchgaaRngP
import Derived.Lib.TrailingZeros
namespace Go.Proofs.Ytlmgfbhgamchgaa
open Go.RowKit
/-- Word i of a set. -/
def wg (ws : List Int) (i : Nat) : Nat := (ig ws i).toNat
/-- Whether number n is in a set of words. -/
def hasB (ws : List Int) (n : Nat) : Bool := (wg ws (n / 64)).testBit (n % 64)
def hasE (ws : List Int) (n : Int) : Bool := decide (0 ≤ n ∧ n < 4096) && hasB ws n.toNat
theorem ig_out {l : List Int} {k : Nat} (h : l.length ≤ k) : ig l k = 0 := by
  rw [ig, List.getD_eq_getElem?_getD, List.getElem?_eq_none h]; rfl
theorem ig_word {ws : List Int} (h : ∀ z ∈ ws, Word z) (i : Nat) : Word (ig ws i) := by
  rcases Nat.lt_or_ge i ws.length with q | q
  · rw [ig, List.getD_eq_getElem?_getD, List.getElem?_eq_getElem q]; exact h _ (List.getElem_mem q)
  · rw [ig_out q]; exact ⟨by decide, by decide⟩
theorem wg_nat {ws : List Int} (h : ∀ z ∈ ws, Word z) (i : Nat) : ig ws i = (wg ws i : Nat) ∧ wg ws i < 18446744073709551616 := by
  obtain ⟨h0, h1⟩ := ig_word h i
  unfold wg
  exact ⟨by omega, by omega⟩
theorem hasB_out {ws : List Int} {n : Nat} (h : ws.length ≤ n / 64) : hasB ws n = false := by
  unfold hasB wg; rw [ig_out h]; simp
/-- One form for each set. -/
def Canon (p : Nat → Bool) (ws : List Int) : Prop :=
  (∀ z ∈ ws, Word z) ∧ ws.length ≤ 64 ∧ (∀ n, n < 4096 → hasB ws n = p n) ∧ (ws = [] ∨ ig ws (ws.length - 1) ≠ 0)
theorem canon_len {p : Nat → Bool} {ws vs : List Int} (h : Canon p ws) (h' : Canon p vs) : ws.length ≤ vs.length := by
  rcases Nat.lt_or_ge vs.length ws.length with q | q
  · exfalso
    obtain ⟨h1, h2, h3, h4⟩ := h
    obtain ⟨_, _, h3', _⟩ := h'
    rcases h4 with rfl | h4
    · simp at q
    · obtain ⟨e, hlt⟩ := wg_nat h1 (ws.length - 1)
      have hne : wg ws (ws.length - 1) ≠ 0 := by omega
      obtain ⟨b, hb⟩ := Nat.exists_testBit_of_ne_zero hne
      have hb64 : b < 64 := by
        rcases Nat.lt_or_ge b 64 with r | r
        · exact r
        · rw [bit_high hlt r] at hb; cases hb
      have e1 : ((ws.length - 1) * 64 + b) / 64 = ws.length - 1 := by omega
      have e2 : ((ws.length - 1) * 64 + b) % 64 = b := by omega
      have hn : (ws.length - 1) * 64 + b < 4096 := by omega
      have a := h3 _ hn
      have a' := h3' _ hn
      rw [← a, hasB_out (by omega)] at a'
      unfold hasB at a'
      rw [e1, e2, hb] at a'
      cases a'
  · exact q
theorem canon_one {p : Nat → Bool} {ws vs : List Int} (h : Canon p ws) (h' : Canon p vs) : ws = vs := by
  have hl : ws.length = vs.length := Nat.le_antisymm (canon_len h h') (canon_len h' h)
  refine ext_getD hl fun k hk => ?_
  obtain ⟨h1, h2, h3, _⟩ := h
  obtain ⟨h1', _, h3', _⟩ := h'
  obtain ⟨e, hlt⟩ := wg_nat h1 k
  obtain ⟨e', hlt'⟩ := wg_nat h1' k
  rw [e, e']
  congr 1
  apply Nat.eq_of_testBit_eq
  intro b
  rcases Nat.lt_or_ge b 64 with r | r
  · have a := (h3 (k * 64 + b) (by omega)).trans (h3' (k * 64 + b) (by omega)).symm
    unfold hasB at a
    rw [show (k * 64 + b) / 64 = k by omega, show (k * 64 + b) % 64 = b by omega] at a
    exact a
  · rw [bit_high hlt r, bit_high hlt' r]
theorem canon_congr {p q : Nat → Bool} {ws : List Int} (h : Canon p ws) (e : ∀ n, n < 4096 → p n = q n) : Canon q ws :=
  ⟨h.1, h.2.1, fun n hn => (h.2.2.1 n hn).trans (e n hn), h.2.2.2⟩
/-- The numbers below m that have p, rising. -/
def lst (p : Nat → Bool) (m : Nat) : List Int := ((List.range m).filter p).map Int.ofNat
theorem lst_congr {p q : Nat → Bool} {m : Nat} (h : ∀ n, n < m → p n = q n) : lst p m = lst q m := by
  unfold lst
  congr 1
  exact List.filter_congr fun n hn => h n (List.mem_range.1 hn)
theorem lst_succ (p : Nat → Bool) (m : Nat) : lst p (m + 1) = lst p m ++ if p m then [(m : Int)] else [] := by
  unfold lst
  rw [List.range_succ, List.filter_append, List.map_append]
  congr 1
  cases h : p m <;> simp [List.filter, h]
theorem mem_lst {p : Nat → Bool} {m : Nat} {z : Int} : z ∈ lst p m ↔ ∃ n : Nat, z = n ∧ n < m ∧ p n = true := by
  unfold lst
  simp only [List.mem_map, List.mem_filter, List.mem_range]
  constructor
  · rintro ⟨n, ⟨h1, h2⟩, rfl⟩; exact ⟨n, rfl, h1, h2⟩
  · rintro ⟨n, rfl, h1, h2⟩; exact ⟨n, ⟨h1, h2⟩, rfl⟩
theorem lst_len (p : Nat → Bool) (m : Nat) : (lst p m).length ≤ m := by
  unfold lst; rw [List.length_map]; exact Nat.le_trans (List.length_filter_le _ _) (by simp)
theorem lst_stop {p : Nat → Bool} {m k : Nat} (hk : m ≤ k) (h : ∀ n, m ≤ n → n < k → p n = false) : lst p k = lst p m := by
  induction k with
  | zero => obtain rfl : m = 0 := by omega
            rfl
  | succ k ih =>
    rcases Nat.lt_or_ge m (k + 1) with q | q
    · rw [lst_succ, h k (by omega) (by omega), ih (by omega) fun n a b => h n a (by omega)]; simp
    · obtain rfl : m = k + 1 := by omega
      rfl
/-- The bits of a word, from place i*64 on. -/
def bitsL (w i : Nat) : List Int := ((List.range 64).filter w.testBit).map fun b => ((i * 64 + b : Nat) : Int)
theorem bits_zero (i : Nat) : bitsL 0 i = [] := by simp [bitsL]
theorem range_split (k n : Nat) (h : k < n) : List.range n = List.range k ++ k :: (List.range (n - k - 1)).map (k + 1 + ·) := by
  have e : n = k + (1 + (n - k - 1)) := by omega
  conv => lhs; rw [e, List.range_add, List.range_add]
  simp [List.range_succ, Nat.add_assoc]
/-- A word without its lowest bit. -/
theorem low_spec (w : Nat) (h0 : w ≠ 0) (hw : w < 18446744073709551616) : ∃ k, Lib.ctz 64 w = k ∧ k < 64 ∧ w.testBit k = true ∧ (∀ j, j < k → w.testBit j = false) ∧
    (∀ j, (w &&& (w - 1)).testBit j = (w.testBit j && decide (j ≠ k))) ∧ w &&& (w - 1) < w := by
  obtain ⟨m, hm, hk⟩ := Lib.ctzFrom_spec 64 w (by omega) hw
  have e : Lib.ctz 64 w = Lib.ctzFrom 64 w := by unfold Lib.ctz; rw [if_neg h0]
  obtain ⟨k, hk'⟩ : ∃ k, Lib.ctzFrom 64 w = k := ⟨_, rfl⟩
  rw [hk'] at hm hk e
  have hb : ∀ j, w.testBit j = (decide (k ≤ j) && (2 * m + 1).testBit (j - k)) := fun j => by
    rw [hm, Nat.mul_comm, Nat.testBit_mul_two_pow]
  have hp : 0 < 2 ^ k := Nat.two_pow_pos k
  have h1 : w - 1 = 2 ^ k * (2 * m) + (2 ^ k - 1) := by rw [hm, Nat.mul_add, Nat.mul_one]; omega
  have hb1 : ∀ j, (w - 1).testBit j = if j < k then true else (2 * m).testBit (j - k) := fun j => by
    rw [h1, Nat.testBit_two_pow_mul_add _ (by omega)]
    split
    · rename_i hj; rw [Nat.testBit_two_pow_sub_one]; simpa using hj
    · rfl
  refine ⟨k, e, hk, ?_, ?_, ?_, ?_⟩
  · rw [hb]; simp [Nat.testBit_zero]
  · intro j hj; rw [hb]; simp; omega
  · intro j
    rw [Nat.testBit_and, hb1, hb]
    rcases Nat.lt_trichotomy j k with q | q | q
    · rw [if_pos q]; simp [show ¬ k ≤ j by omega]
    · subst q; simp [Nat.testBit_zero]
    · rw [if_neg (by omega)]
      obtain ⟨d, rfl⟩ : ∃ d, j = k + (d + 1) := ⟨j - k - 1, by omega⟩
      rw [show k + (d + 1) - k = d + 1 by omega, Nat.testBit_succ, Nat.testBit_succ, show 2 * m / 2 = m by omega, show (2 * m + 1) / 2 = m by omega]
      have : decide (k + (d + 1) ≠ k) = true := by simp
      rw [this]
      simp
  · have : w &&& (w - 1) ≤ w - 1 := Nat.and_le_right
    omega
theorem bits_step (w i : Nat) (h0 : w ≠ 0) (hw : w < 18446744073709551616) : bitsL w i = ((i * 64 + Lib.ctz 64 w : Nat) : Int) :: bitsL (w &&& (w - 1)) i := by
  obtain ⟨k, hk, hk64, hkb, hlow, hand, _⟩ := low_spec w h0 hw
  rw [hk]
  unfold bitsL
  rw [range_split k 64 hk64]
  rw [List.filter_append, List.filter_append, List.filter_cons, List.filter_cons, if_pos hkb, if_neg (by rw [hand]; simp), List.map_append, List.map_append, List.map_cons]
  have e1 : (List.range k).filter w.testBit = [] := List.filter_eq_nil_iff.2 fun j hj => by rw [hlow j (List.mem_range.1 hj)]; simp
  have e2 : (List.range k).filter (w &&& (w - 1)).testBit = [] := List.filter_eq_nil_iff.2 fun j hj => by rw [hand, hlow j (List.mem_range.1 hj)]; simp
  have e3 : ((List.range (64 - k - 1)).map (k + 1 + ·)).filter w.testBit = ((List.range (64 - k - 1)).map (k + 1 + ·)).filter (w &&& (w - 1)).testBit := by
    refine List.filter_congr fun j hj => ?_
    obtain ⟨d, _, rfl⟩ := List.mem_map.1 hj
    rw [hand]; simp; omega
  rw [e1, e2, e3]
  rfl
theorem lst_word (ws : List Int) (i : Nat) : lst (hasB ws) ((i + 1) * 64) = lst (hasB ws) (i * 64) ++ bitsL (wg ws i) i := by
  unfold lst bitsL
  rw [show (i + 1) * 64 = i * 64 + 64 by omega, List.range_add, List.filter_append, List.map_append]
  congr 1
  rw [List.filter_map, List.map_map]
  congr 1
  refine List.filter_congr fun b hb => ?_
  have := List.mem_range.1 hb
  simp only [Function.comp, hasB]
  rw [show (i * 64 + b) / 64 = i by omega, show (i * 64 + b) % 64 = b by omega]
/-- The numbers of a set. -/
def listE (ws : List Int) : List Int := lst (hasB ws) 4096
theorem listE_cut (ws : List Int) (m : Nat) (h : m = min ws.length 64) : lst (hasB ws) (m * 64) = listE ws := by
  unfold listE
  refine (lst_stop (by omega) fun n h1 h2 => ?_).symm
  have : ws.length ≤ n / 64 := by omega
  exact hasB_out this
theorem hasB_take {ws : List Int} {m n : Nat} (h : n / 64 < m) : hasB (ws.take m) n = hasB ws n := by
  unfold hasB wg ig
  rw [List.getD_eq_getElem?_getD, List.getD_eq_getElem?_getD, List.getElem?_take, if_pos h]
end Go.Proofs.Ytlmgfbhgamchgaa
