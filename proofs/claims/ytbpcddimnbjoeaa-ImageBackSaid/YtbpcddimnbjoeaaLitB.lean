/- Plain laws of package little: what was written is read, and what is read was written so. -/
import Derived.Test.YtbpcddimnbjoeaaLitP
namespace Go.Proofs.Ytbpcddimnbjoeaa
open Go.RowKit
theorem num_back : ∀ (f n i acc : Nat) (rest : List Int), f + i = 9 → n < 2 ^ (64 - 7 * i) → (0 < i → 0 < n) →
    numFrom (numB f n ++ rest) i acc = (acc + n * 2 ^ (7 * i), i + (numB f n).length, 0) := by
  intro f
  induction f with
  | zero =>
    intro n i acc rest hf hn h0
    obtain rfl : i = 9 := by omega
    have h2 : n < 2 := hn
    have h1 : n = 1 := by have := h0 (by decide); omega
    subst h1
    rw [numB, show ((1 % 256 : Nat) : Int) = ((1 : Nat) : Int) by rfl, List.singleton_append, numFrom_step 1 1 9 acc rest rfl, if_neg (by decide), if_neg (by decide), if_neg (by decide)]
    rfl
  | succ f ih =>
    intro n i acc rest hf hn h0
    rw [numB]
    split
    · rename_i hlt
      rw [List.singleton_append, numFrom_step n n i acc rest (by omega), if_neg (by omega), if_neg (by omega), if_neg (by
        rintro ⟨a, b⟩
        have := h0 b
        omega)]
      rfl
    · rename_i hge
      have hn' : n / 128 < 2 ^ (64 - 7 * (i + 1)) := by
        refine Nat.div_lt_of_lt_mul ?_
        rw [show 128 * 2 ^ (64 - 7 * (i + 1)) = 2 ^ (64 - 7 * i) by rw [show 64 - 7 * i = (64 - 7 * (i + 1)) + 7 by omega, Nat.pow_add]; omega]
        exact hn
      rw [List.cons_append, numFrom_step (n % 128 + 128) (n % 128) i acc _ (by omega), if_neg (by omega), if_pos (by omega), ih (n / 128) (i + 1) _ rest (by omega) hn' (fun _ => by omega)]
      refine Prod.ext ?_ (Prod.ext ?_ rfl)
      · show acc + n % 128 * 2 ^ (7 * i) + n / 128 * 2 ^ (7 * (i + 1)) = acc + n * 2 ^ (7 * i)
        have e : n * 2 ^ (7 * i) = n % 128 * 2 ^ (7 * i) + n / 128 * (128 * 2 ^ (7 * i)) := by
          conv => lhs; rw [← Nat.mod_add_div n 128]
          rw [Nat.add_mul, Nat.mul_comm 128 (n / 128), Nat.mul_assoc]
        rw [pow7, e]; omega
      · show i + 1 + (numB f (n / 128)).length = i + (((n % 128 + 128 : Nat) : Int) :: numB f (n / 128)).length
        simp; omega
theorem numOf_num (n : Nat) (hn : n < 18446744073709551616) (rest : List Int) : numOf (numL n ++ rest) = (n, (numL n).length, 0) := by
  have := num_back 9 n 0 0 rest rfl hn (fun h => absurd h (by decide))
  simpa [numOf, numL] using this
theorem num_canon : ∀ (l : List Int) (i acc m sz : Nat), Bytes l → i ≤ 9 → numFrom l i acc = (m, sz, 0) →
    ∃ n, m = acc + n * 2 ^ (7 * i) ∧ n < 2 ^ (64 - 7 * i) ∧ (0 < i → 0 < n) ∧ l.take (sz - i) = numB (9 - i) n ∧ i < sz ∧ sz ≤ i + l.length := by
  intro l
  induction l with
  | nil => intro i acc m sz _ _ h; simp [numFrom] at h
  | cons b rest ih =>
    intro i acc m sz hl hi h
    have hb := hl b (by simp)
    obtain ⟨b, rfl⟩ := Int.eq_ofNat_of_zero_le hb.1
    have hb256 : b < 256 := by have := hb.2; omega
    have hrest : Bytes rest := fun x hx => hl x (by simp [hx])
    rw [numFrom_step b (b % 128) i acc rest rfl] at h
    split at h
    · simp at h
    · rename_i h10
      split at h
      · rename_i h128
        rcases Nat.lt_or_ge i 9 with hi9 | hi9
        · obtain ⟨n, e1, e2, e3, e4, e5, e6⟩ := ih (i + 1) _ m sz hrest (by omega) h
          have e3' := e3 (by omega)
          refine ⟨b % 128 + 128 * n, ?_, ?_, fun _ => by omega, ?_, by omega, by simp; omega⟩
          · rw [e1, pow7, Nat.add_mul]
            have : 128 * n * 2 ^ (7 * i) = n * (128 * 2 ^ (7 * i)) := by rw [Nat.mul_comm 128 n, Nat.mul_assoc]
            omega
          · have : 2 ^ (64 - 7 * i) = 128 * 2 ^ (64 - 7 * (i + 1)) := by rw [show 64 - 7 * i = (64 - 7 * (i + 1)) + 7 by omega, Nat.pow_add]; omega
            omega
          · rw [show sz - i = (sz - (i + 1)) + 1 by omega, List.take_succ_cons, e4, show 9 - i = (9 - (i + 1)) + 1 by omega, numB, if_neg (by omega), show (b % 128 + 128 * n) % 128 + 128 = b by omega, show (b % 128 + 128 * n) / 128 = n by omega]
        · obtain rfl : i = 9 := by omega
          cases rest with
          | nil => simp [numFrom] at h
          | cons c r => simp [numFrom] at h
      · split at h
        · simp at h
        · rename_i h128 hz
          simp only [Prod.mk.injEq] at h
          obtain ⟨h1, h2, _⟩ := h
          refine ⟨b, ?_, ?_, fun h0 => ?_, ?_, by omega, by simp; omega⟩
          · rw [← h1, Nat.mod_eq_of_lt (by omega)]
          · rcases Nat.lt_or_ge i 9 with hi9 | hi9
            · have : 2 ^ 8 ≤ 2 ^ (64 - 7 * i) := Nat.pow_le_pow_right (by decide) (by omega)
              omega
            · obtain rfl : i = 9 := by omega
              have : 2 ^ (64 - 7 * 9) = 2 := by decide
              omega
          · rcases Nat.eq_zero_or_pos b with q | q
            · exact absurd ⟨by omega, h0⟩ hz
            · exact q
          · rw [← h2, show i + 1 - i = 1 by omega, List.take_succ_cons, List.take_zero]
            cases hf : 9 - i with
            | zero => simp [numB]; omega
            | succ f => rw [numB, if_pos (by omega)]
theorem numOf_canon {l : List Int} {m sz : Nat} (hl : Bytes l) (h : numOf l = (m, sz, 0)) : m < 18446744073709551616 ∧ l.take sz = numL m ∧ sz = (numL m).length ∧ sz ≤ l.length := by
  obtain ⟨n, e1, e2, _, e4, e5, e6⟩ := num_canon l 0 0 m sz hl (by decide) h
  have e : m = n := by simpa using e1
  subst e
  refine ⟨e2, e4, ?_, by omega⟩
  have := congrArg List.length e4
  simp at this
  unfold numL
  omega
theorem word_back (t rest : List Int) (ht : t.length ≤ 65536) : wordOf (textL t ++ rest) = (t, rest, 0) := by
  have h := numOf_num t.length (by omega) (t ++ rest)
  unfold wordOf textL
  rw [List.append_assoc, h]
  simp
  rw [if_neg (by omega), if_neg (by omega)]
/-- Numbers, and texts, one behind the other. -/
def numsL (zs : List Int) : List Int := zs.flatMap fun z => numL z.toNat
def textsL (ts : List (List Int)) : List Int := ts.flatMap textL
theorem bytes_nums (zs : List Int) : Bytes (numsL zs) := fun b hb => by
  obtain ⟨z, _, h⟩ := List.mem_flatMap.1 hb
  exact bytes_num _ b h
theorem len_nums (zs : List Int) : (numsL zs).length ≤ 10 * zs.length := by
  induction zs with
  | nil => simp [numsL]
  | cons z zs ih =>
    have := (len_num z.toNat).1
    simp only [numsL, List.flatMap_cons, List.length_append, List.length_cons] at *
    omega
theorem bytes_texts {ts : List (List Int)} (h : ∀ t ∈ ts, Bytes t) : Bytes (textsL ts) := fun b hb => by
  obtain ⟨t, ht, h'⟩ := List.mem_flatMap.1 hb
  exact bytes_text (h t ht) b h'
theorem len_texts (ts : List (List Int)) (h : ∀ t ∈ ts, t.length ≤ 1000) : (textsL ts).length ≤ 1010 * ts.length := by
  induction ts with
  | nil => simp [textsL]
  | cons t ts ih =>
    have h1 := (len_num t.length).1
    have h2 := h t (by simp)
    have h3 := ih fun x hx => h x (by simp [hx])
    simp only [textsL, textL, List.flatMap_cons, List.length_append, List.length_cons] at *
    omega
end Go.Proofs.Ytbpcddimnbjoeaa
