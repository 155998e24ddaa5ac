/- Scripts, plain law: lines are cut, words are split. -/
import Derived.Test.YtillmlaoppibfaaDoorScP
import Derived.Lib.Split
import Derived.Lib.CountLaws
namespace Go.Proofs.YtillmlaoppibfaaDoor
open Go.RowKit
theorem index_hit (c : UInt8) : ∀ (l r : List UInt8), c ∉ l → Lib.index (l ++ c :: r) [c] = (l.length : Int)
  | [], r, _ => by
    rw [List.nil_append, Lib.index, if_pos (by simp)]
    rfl
  | b :: l, r, h => by
    have hb : b ≠ c := fun e => h (by rw [e]; simp)
    have hl : c ∉ l := fun e => h (by simp [e])
    have h0 : List.isPrefixOf [c] (b :: (l ++ c :: r)) = false := by simp [List.isPrefixOf, Ne.symm hb]
    rw [List.cons_append, Lib.index, h0, index_hit c l r hl]
    have : ((l.length : Int) == -1) = false := by rw [beq_eq_false_iff_ne]; omega
    simp [this]
theorem index_miss (c : UInt8) : ∀ (l : List UInt8), c ∉ l → Lib.index l [c] = -1
  | [], _ => rfl
  | b :: l, h => by
    have hb : b ≠ c := fun e => h (by rw [e]; simp)
    have hl : c ∉ l := fun e => h (by simp [e])
    have h0 : List.isPrefixOf [c] (b :: l) = false := by simp [List.isPrefixOf, Ne.symm hb]
    rw [Lib.index, h0, index_miss c l hl]
    rfl
/-- A line is cut off. -/
theorem cut_line (c : UInt8) (l r : List UInt8) (h : c ∉ l) : Lib.cut (l ++ c :: r) [c] = (l, r, true) := by
  unfold Lib.cut
  rw [index_hit c l r h, if_pos (by omega), Int.toNat_natCast, List.take_left]
  have : (l ++ c :: r).drop (l.length + [c].length) = r := by
    rw [← List.drop_drop, List.drop_left]; rfl
  rw [this]
/-- Words, with c between them. -/
def joinW (c : UInt8) : List (List UInt8) → List UInt8
  | [] => []
  | [w] => w
  | w :: ws => w ++ c :: joinW c ws
theorem count_join (c : UInt8) : ∀ (ws : List (List UInt8)), (∀ w ∈ ws, c ∉ w) → ws ≠ [] → Lib.count (joinW c ws) [c] + 1 = ws.length
  | [], _, h => absurd rfl h
  | [w], h, _ => by
    show Lib.count w [c] + 1 = 1
    rw [Lib.count_miss (index_miss c w (h w (by simp)))]
  | w :: v :: ws, h, _ => by
    have e : joinW c (w :: v :: ws) = w ++ c :: joinW c (v :: ws) := rfl
    rw [e, Lib.count_hit (i := w.length) (by simp) (index_hit c w _ (h w (by simp)))]
    have : (w ++ c :: joinW c (v :: ws)).drop (w.length + [c].length) = joinW c (v :: ws) := by
      rw [← List.drop_drop, List.drop_left]; rfl
    rw [this]
    have := count_join c (v :: ws) (fun x hx => h x (by simp [hx])) (by simp)
    rw [List.length_cons]
    omega
/-- Words are split. -/
theorem split_join (c : UInt8) : ∀ (ws : List (List UInt8)), (∀ w ∈ ws, c ∉ w) → ws ≠ [] → Lib.splitK [c] 0 (ws.length - 1) (joinW c ws) = ws
  | [], _, h => absurd rfl h
  | [w], h, _ => rfl
  | w :: v :: ws, h, _ => by
    have e : joinW c (w :: v :: ws) = w ++ c :: joinW c (v :: ws) := rfl
    rw [e, show (w :: v :: ws).length - 1 = ws.length + 1 by simp]
    have hi := index_hit c w (joinW c (v :: ws)) (h w (by simp))
    have hd : (w ++ c :: joinW c (v :: ws)).drop (w.length + [c].length) = joinW c (v :: ws) := by
      rw [← List.drop_drop, List.drop_left]; rfl
    have ih := split_join c (v :: ws) (fun x hx => h x (by simp [hx])) (by simp)
    rw [show (v :: ws).length - 1 = ws.length by simp] at ih
    rw [Lib.splitK, hi]
    have hne : ((w.length : Int) == -1) = false := by rw [beq_eq_false_iff_ne]; omega
    rw [hne, if_neg (by decide), Int.toNat_natCast, hd, ih, Nat.add_zero, List.take_left]
end Go.Proofs.YtillmlaoppibfaaDoor
