/- Walks of the laws RngSpread and RngBack. -/
import Derived.Test.YtknnalaemndnaaaLaw03
namespace Go.Proofs.Ytknnalaemndnaaa
open Go.RowKit
theorem lvl_spec (d m : Int) : ∀ (k l : Nat), (∀ j, j < l → belowI (atI d j) m = 0) → lvlFrom d m k l ≤ k + l ∧ (∀ j, j < lvlFrom d m k l → belowI (atI d j) m = 0) ∧ (lvlFrom d m k l = k + l ∨ belowI (atI d (lvlFrom d m k l)) m ≠ 0) := by
  intro k
  induction k with
  | zero => intro l h; exact ⟨by simp [lvlFrom], by simpa [lvlFrom] using h, .inl (by simp [lvlFrom])⟩
  | succ k ih =>
    intro l h
    rw [lvlFrom]
    split
    · rename_i h0
      have := ih (l + 1) (fun j hj => by
        rcases Nat.lt_or_ge j l with q | q
        · exact h j q
        · obtain rfl : j = l := by omega
          exact h0)
      exact ⟨by omega, this.2.1, by have := this.2.2; rcases this with q | q
                                    · exact .inl (by omega)
                                    · exact .inr q⟩
    · rename_i h0
      exact ⟨by omega, h, .inr h0⟩
theorem word_min {x y : Int} (hx : Word x) (hy : Word y) : Word (min x y) := by obtain ⟨_, _⟩ := hx; obtain ⟨_, _⟩ := hy; exact ⟨by omega, by omega⟩
theorem word_max {x y : Int} (hx : Word x) (hy : Word y) : Word (max x y) := by obtain ⟨_, _⟩ := hx; obtain ⟨_, _⟩ := hy; exact ⟨by omega, by omega⟩
set_option maxHeartbeats 2000000 in
theorem rngSpread_walk (x y n links : Int) (hx : Word x) (hy : Word y) (hn : Word n) (w : World) :
    Calls Try.prog 5 #[.int .u64 x, .int .u64 y, .int .u64 n, .int .i64 links] w fun e w' => e = .returned (.bool true) ∧ Below w.heap.size w w' := by
  have hab : ¬ belowI (max x y) n < belowI (min x y) n := by have := belowI_mono (x := min x y) (y := max x y) (by omega) hn.1; omega
  have hs := lvl_spec x (lvlM links) 7 0 (fun j hj => by omega)
  have X := Lib.hid hx
  have Y := Lib.hid hy
  have NN := Lib.hid hn
  clear hx hy hn
  have m1 : 2 ≤ min (max links 2) 32 := by omega
  have m2 : min (max links 2) 32 ≤ 32 := by omega
  obtain ⟨m, hm⟩ : ∃ m, min (max links 2) 32 = m := ⟨_, rfl⟩
  have hlm : lvlM links = m := hm
  rw [hm] at m1 m2
  rw [hlm] at hs
  have HLM := Lib.hid hlm
  clear hlm
  change lvlI x m ≤ _ ∧ (∀ j, j < lvlI x m → _) ∧ (lvlI x m = _ ∨ belowI (atI x (lvlI x m)) m ≠ 0) at hs
  obtain ⟨k, hk⟩ : ∃ k, lvlI x m = k := ⟨_, rfl⟩
  rw [hk] at hs
  obtain ⟨hk7, hz, hnz⟩ := hs
  have HZ := Lib.hid hz
  clear hz
  have hend : Hid (k = 7 ∨ belowI (atI x k) m ≠ 0) := by rcases hnz with q | q; exact .inl (by omega); exact .inr q
  clear hnz
  go_enter Try.func5, Try.ntmps5
  go_wp2_with (first
    | (go_at_call 12; refine (lives03 _).mono ?_; rintro e w1 ⟨rfl, hb1⟩)
    | (go_at_call 19; refine (rng_below _ _ ?_ NN.out _).mono ?_; (first | exact word_min X.out Y.out | exact word_max X.out Y.out); rintro e w' ⟨rfl, rfl⟩)
    | (go_at_call 21; refine (rng_level _ _ _).mono ?_; rintro e w' ⟨rfl, rfl⟩; rw [HLM.out]))
  have HK := Lib.hid hk
  clear hk
  go_loop [13] (fun i => ∃ l : Nat, l ≤ k ∧ i = .int .i64 l) (fun i => (k - intOf i).toNat)
  case atStart => exact ⟨0, Nat.zero_le _, rfl⟩
  case round =>
    obtain ⟨l, hl, rfl⟩ := hrel
    by_cases hlt : l < k
    · have hz0 : (belowI (atI x l) m != 0) = false := by simp [HZ.out l hlt]
      go_wp2_with (first
        | (go_at_call 17; refine (rng_at _ _ _).mono ?_; rintro e w' ⟨rfl, rfl⟩)
        | (go_at_call 19; refine (rng_below _ _ (word_at _ _) (word_small (by omega) (by omega)) _).mono ?_; rintro e w' ⟨rfl, rfl⟩))
      go_round
      case rel => exact ⟨l + 1, by omega, by go_num⟩
      case measure => simp [intOf]; omega
    · obtain rfl : l = k := by omega
      by_cases h7 : l = 7
      · subst h7
        go_wp2_with (first
          | (go_at_call 17; refine (rng_at _ _ _).mono ?_; rintro e w' ⟨rfl, rfl⟩)
          | (go_at_call 19; refine (rng_below _ _ (word_at _ _) (word_small (by omega) (by omega)) _).mono ?_; rintro e w' ⟨rfl, rfl⟩))
        go_ret
        exact ⟨rfl, hb1⟩
      · have h7' : ((l : Int) == 7) = false := by simp; omega
        have hnz0 : (belowI (atI x l) m != 0) = true := by
          have := hend.out.resolve_left h7
          simp [this]
        go_wp2_with (first
          | (go_at_call 17; refine (rng_at _ _ _).mono ?_; rintro e w' ⟨rfl, rfl⟩)
          | (go_at_call 19; refine (rng_below _ _ (word_at _ _) (word_small (by omega) (by omega)) _).mono ?_; rintro e w' ⟨rfl, rfl⟩))
        go_ret
        exact ⟨rfl, hb1⟩
end Go.Proofs.Ytknnalaemndnaaa
