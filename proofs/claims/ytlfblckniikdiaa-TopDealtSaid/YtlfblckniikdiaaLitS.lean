/- Plain laws: numbers one behind the other; a number that lacks its end. -/
import Derived.Test.YtlfblckniikdiaaLitB
import Derived.Test.YtlfblckniikdiaaMem
namespace Go.Proofs.Ytlfblckniikdiaa
open Go.RowKit
theorem drop_ig_ {l : List Int} {k : Nat} (h : k < l.length) : l.drop k = ig l k :: l.drop (k + 1) := by
  rw [List.drop_eq_getElem_cons h, ig, List.getD_eq_getElem?_getD, List.getElem?_eq_getElem h]; rfl
theorem nums_app (a b : List Int) : numsL (a ++ b) = numsL a ++ numsL b := by simp [numsL]
theorem nums_one (x : Int) : numsL [x] = numL x.toNat := by simp [numsL]
theorem nums_take1 {zs : List Int} {k : Nat} (h : k < zs.length) : numsL (zs.take (k + 1)) = numsL (zs.take k) ++ numL (ig zs k).toNat := by
  rw [take_step h, nums_app, nums_one]
theorem nums_drop1 {zs : List Int} {k : Nat} (h : k < zs.length) : numsL (zs.drop k) = numL (ig zs k).toNat ++ numsL (zs.drop (k + 1)) := by
  rw [numsL, drop_ig_ h, List.flatMap_cons]; rfl
theorem num_short : ∀ (f n i acc k : Nat), f + i = 9 → k < (numB f n).length → numFrom ((numB f n).take k) i acc = (0, 0, 8) := by
  intro f
  induction f with
  | zero =>
    intro n i acc k _ hk
    have : (numB 0 n).length = 1 := rfl
    obtain rfl : k = 0 := by omega
    rfl
  | succ f ih =>
    intro n i acc k hf hk
    cases k with
    | zero => rfl
    | succ k =>
      rw [numB] at hk ⊢
      split at hk
      · simp at hk
      · rename_i hge
        rw [if_neg hge, List.take_succ_cons, numFrom_step (n % 128 + 128) (n % 128) i acc _ (by omega), if_neg (by omega), if_pos (by omega)]
        exact ih _ _ _ _ (by omega) (by simpa using hk)
theorem numOf_short (n : Nat) : numOf ((numL n).take ((numL n).length - 1)) = (0, 0, 8) :=
  num_short 9 n 0 0 _ rfl (by have := (len_num n).2; unfold numL at this ⊢; omega)
theorem ig_map {zs : List Int} {k : Nat} (f : Int → Int) (h : k < zs.length) : ig (zs.map f) k = f (ig zs k) := by
  simp [ig, List.getD_eq_getElem?_getD, List.getElem?_eq_getElem h]
theorem ig_mem_ {zs : List Int} {k : Nat} (h : k < zs.length) : ig zs k ∈ zs := by
  rw [ig, List.getD_eq_getElem?_getD, List.getElem?_eq_getElem h]; simp
end Go.Proofs.Ytlfblckniikdiaa
