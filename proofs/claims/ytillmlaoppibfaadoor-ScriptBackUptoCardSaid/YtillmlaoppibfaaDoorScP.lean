/- Scripts, plain law: numbers as words. -/
import Derived.WalkKit
import Derived.Lib.ItoaNum
import Derived.Lib.ItoaMem
import Derived.Lib.ParseIntBCases
import Derived.Test.YtillmlaoppibfaaDoorLitP
namespace Go.Proofs.YtillmlaoppibfaaDoor
open Go.RowKit
theorem dig_toNat {d : Nat} (h : d < 10) : (UInt8.ofNat (48 + d)).toNat = 48 + d := by
  rw [UInt8.toNat_ofNat']; omega
theorem parse_dig {M : Nat} (hM : M ≤ 18446744073709551615) : ∀ (f u : Nat) (r : List UInt8), u ≤ f → u ≤ M → Lib.parseUintM M 0 (Lib.decDigits u ++ r) = Lib.parseUintM M u r
  | f, u, r, hf, hu => by
    by_cases h10 : u < 10
    · rw [Lib.decDigits_one h10, List.singleton_append, Lib.parseUintM, dig_toNat h10, if_pos (by omega), if_neg (by omega), if_neg (by omega)]
      congr 1
      omega
    · match f, hf with
      | 0, hf => exact absurd hf (by omega)
      | f + 1, hf =>
        have e : Lib.decDigits u = Lib.decDigits (u / 10) ++ [UInt8.ofNat (48 + u % 10)] := by rw [Lib.decDigits, dif_neg h10]
        rw [e, List.append_assoc, parse_dig hM f (u / 10) _ (by omega) (by omega), List.singleton_append, Lib.parseUintM, dig_toNat (by omega), if_pos (by omega), if_neg (by omega), if_neg (by omega)]
        congr 1
        omega
theorem dec_ne (u : Nat) : Lib.decDigits u ≠ [] := by
  rw [Lib.decDigits]
  split <;> simp
/-- A number's word is read. -/
theorem parse_dec {u : Nat} (h : u ≤ 18446744073709551615) : Lib.parseMag (Lib.decDigits u) = .ok u := by
  rw [← Lib.parseUintB_64]
  unfold Lib.parseUintB
  rw [if_neg (dec_ne u)]
  have := parse_dig (M := 2 ^ 64 - 1) (by decide) u u [] (Nat.le_refl _) (by omega)
  rw [List.append_nil] at this
  rw [this, Lib.parseUintM]
theorem dec_digits : ∀ (f u : Nat), u ≤ f → ∀ c ∈ Lib.decDigits u, 48 ≤ c.toNat ∧ c.toNat ≤ 57
  | f, u, hf => by
    by_cases h10 : u < 10
    · rw [Lib.decDigits_one h10]
      intro c hc
      rw [List.mem_singleton.1 hc, dig_toNat h10]
      omega
    · match f, hf with
      | 0, hf => exact absurd hf (by omega)
      | f + 1, hf =>
        have e : Lib.decDigits u = Lib.decDigits (u / 10) ++ [UInt8.ofNat (48 + u % 10)] := by rw [Lib.decDigits, dif_neg h10]
        rw [e]
        intro c hc
        rcases List.mem_append.1 hc with h | h
        · exact dec_digits f (u / 10) (by omega) c h
        · rw [List.mem_singleton.1 h, dig_toNat (by omega)]
          omega
/-- A component's word is read. -/
theorem parse_itoa {z : Int} (h : -2147483648 ≤ z ∧ z ≤ 2147483647) : Lib.parseIntB 32 (Lib.itoa z) = .ok z := by
  have key : ∀ u : Nat, u ≤ 4294967295 → Lib.parseUintB 32 (Lib.decDigits u) = .ok u := fun u hu => by
    unfold Lib.parseUintB
    rw [if_neg (dec_ne u)]
    have := parse_dig (M := 2 ^ 32 - 1) (by decide) u u [] (Nat.le_refl _) (by omega)
    rw [List.append_nil] at this
    rw [this, Lib.parseUintM]
  by_cases hz : z < 0
  · have e : Lib.itoa z = 45 :: Lib.decDigits z.natAbs := by unfold Lib.itoa; rw [if_pos hz]
    rw [e, Lib.parseIntB_minus, key _ (by omega)]
    unfold Lib.signedC
    dsimp only
    rw [if_neg (by omega)]
    congr 1
    omega
  · have e : Lib.itoa z = Lib.decDigits z.toNat := by unfold Lib.itoa; rw [if_neg hz]
    rw [e]
    have hd := dec_digits z.toNat z.toNat (Nat.le_refl _)
    have hk := key z.toNat (by omega)
    cases hl : Lib.decDigits z.toNat with
    | nil => exact absurd hl (dec_ne _)
    | cons c r =>
      rw [hl] at hd hk
      have hc := hd c (by simp)
      rw [Lib.parseIntB_plain 32 c r (by omega) (by omega), hk]
      unfold Lib.signlessC
      dsimp only
      rw [if_neg (by omega)]
      congr 1
      omega
end Go.Proofs.YtillmlaoppibfaaDoor
