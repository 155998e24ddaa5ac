/- Walks of package bitset: what is short; the set of numbers; how many. -/
import Derived.Test.YtokgcjhlmohjgaaDoorBitW
import Derived.Deep.DeepCutAuto
import Derived.StillTailTactics
namespace Go.Proofs.YtokgcjhlmohjgaaDoor
open Go.RowKit
/-- What 'short' tells of a list of words: so many of them, the last one not 0, and 0 behind it. -/
def ShortRet (ws : List Int) (m c : Nat) (a : Addr) (w : World) (e : Ending) (w' : World) : Prop :=
  ∃ k, k ≤ m ∧ e = .returned (.slice (some a) k c) ∧ (∀ j, k ≤ j → j < m → ig ws j = 0) ∧ (k = 0 ∨ ig ws (k - 1) ≠ 0) ∧ w = w'
theorem canon_short {p : Nat → Bool} {cs : List Int} {k : Nat} (hw : ∀ z ∈ cs, Word z) (hq : cs.length ≤ 64) (hp : ∀ n, n < 4096 → hasB cs n = p n) (hk : k ≤ cs.length) (hz : ∀ j, k ≤ j → j < cs.length → ig cs j = 0) (hl : k = 0 ∨ ig cs (k - 1) ≠ 0) :
    Canon p (cs.take k) ∧ (cs.take k).length = k := by
  have hlen : (cs.take k).length = k := by rw [List.length_take]; omega
  refine ⟨⟨fun z h => hw z (List.mem_of_mem_take h), by omega, fun n hn => ?_, ?_⟩, hlen⟩
  · rw [← hp n hn]
    rcases Nat.lt_or_ge (n / 64) k with q | q
    · exact hasB_take q
    · rw [hasB_out (by omega)]
      unfold hasB wg
      rcases Nat.lt_or_ge (n / 64) cs.length with r | r
      · rw [hz _ q r]; simp
      · rw [ig_out r]; simp
  · by_cases hk0 : k = 0
    · left; subst hk0; simp
    · right
      rw [hlen]
      have : ig (cs.take k) (k - 1) = ig cs (k - 1) := by
        rw [ig, ig, List.getD_eq_getElem?_getD, List.getD_eq_getElem?_getD, List.getElem?_take, if_pos (by omega)]
      rw [this]
      rcases hl with h | h
      · exact absurd h hk0
      · exact h
/-- A set of words in memory, of its own. -/
def RetC (p : Nat → Bool) (w : World) (e : Ending) (w' : World) : Prop :=
  ∃ ws A c, e = .returned (.slice A ws.length c) ∧ ws.length ≤ c ∧ (A = none → c = 0) ∧ Canon p ws ∧ Rd w' w'.heap.size A ws.length (ws.map (.int .u64)) ∧ Below w.heap.size w w'
theorem hasB_set {cs : List Int} {i n : Nat} {v : Int} (hi : i < cs.length) : hasB (cs.set i v) n = if i = n / 64 then v.toNat.testBit (n % 64) else hasB cs n := by
  unfold hasB wg
  rw [ig_set hi]
  split <;> rfl
def inL (l : List Int) (n : Nat) : Bool := decide ((n : Int) ∈ l)
/-- What the loop over the numbers has made of the words. -/
def OrInv (cs : List Int) (q : Nat) (l : List Int) (k : Nat) : Prop := cs.length = q ∧ (∀ z ∈ cs, Word z) ∧ ∀ n, n < 4096 → hasB cs n = inL (l.take k) n
theorem OrInv.skip {cs : List Int} {q : Nat} {l : List Int} {k : Nat} (h : OrInv cs q l k) (hk : k < l.length) (hx : ig l k < 0 ∨ 4096 ≤ ig l k) : OrInv cs q l (k + 1) := by
  refine ⟨h.1, h.2.1, fun n hn => ?_⟩
  rw [h.2.2 n hn, take_step hk]
  unfold inL
  rw [decide_eq_decide, List.mem_append, List.mem_singleton]
  constructor
  · exact Or.inl
  · rintro (h | h)
    · exact h
    · omega
theorem or_bit (x r : Nat) (hx : x < 18446744073709551616) (hr : r < 64) : x ||| 2 ^ r < 18446744073709551616 :=
  Nat.or_lt_two_pow (n := 64) hx (Nat.pow_lt_pow_right (by decide) hr)
theorem OrInv.put {cs : List Int} {q : Nat} {l : List Int} {k x : Nat} (h : OrInv cs q l k) (hk : k < l.length) (hx : ig l k = x) (_hx : x < 4096) (hq : x / 64 < q) :
    OrInv (cs.set (x / 64) ((wg cs (x / 64) ||| 2 ^ (x % 64) : Nat) : Int)) q l (k + 1) := by
  obtain ⟨h1, h2, h3⟩ := h
  refine ⟨by rw [List.length_set]; exact h1, fun z hz => ?_, fun n hn => ?_⟩
  · rcases List.mem_or_eq_of_mem_set hz with q | rfl
    · exact h2 z q
    · exact word_of_nat (or_bit _ _ (wg_nat h2 _).2 (Nat.mod_lt _ (by decide)))
  · rw [hasB_set (by omega), take_step hk, hx]
    have e : inL (l.take k ++ [(x : Int)]) n = (inL (l.take k) n || decide (n = x)) := by
      unfold inL
      rw [← Bool.decide_or, decide_eq_decide, List.mem_append, List.mem_singleton]
      constructor
      · rintro (h | h)
        · exact Or.inl h
        · exact Or.inr (by omega)
      · rintro (h | h)
        · exact Or.inl h
        · exact Or.inr (by omega)
    rw [e, ← h3 n hn]
    split
    · rename_i hd
      rw [Int.toNat_natCast, Nat.testBit_or, Nat.testBit_two_pow, hasB, hd]
      congr 1
      rw [decide_eq_decide]
      omega
    · rename_i hd
      rw [show decide (n = x) = false from decide_eq_false (fun e => hd (by rw [e])), Bool.or_false]
end Go.Proofs.YtokgcjhlmohjgaaDoor
