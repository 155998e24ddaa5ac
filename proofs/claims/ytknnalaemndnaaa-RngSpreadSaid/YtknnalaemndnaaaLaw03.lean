/- Walks of the laws of rng. -/
import Derived.Test.YtknnalaemndnaaaPerm
import Derived.Test.YtknnalaemndnaaaRngL
import Derived.Test.YtknnalaemndnaaaSame
namespace Go.Proofs.Ytknnalaemndnaaa
open Go.RowKit
theorem perm13 : permI 1 (permLen 3) = [0, 1, 2] := by decide +kernel
set_option maxHeartbeats 1000000 in
theorem lives03 (w : World) : Calls Try.prog 12 #[] w fun e w' => e = .returned (.bool true) ∧ Below w.heap.size w w' := by
  have e1 : (belowI 9223372036854775808 10 == 5) = true := by decide +kernel
  have e2 : (belowI 9 0 == 0) = true := by decide +kernel
  have e3 : (unmixI (mixI 77) == 77) = true := by decide +kernel
  have e4 : (mixI 0 == 16294208416658607535) = true := by decide +kernel
  have e5 : (atI 5 0 == mixI 5) = true := by decide +kernel
  have e6 : decide (1 ≤ (lvlI (unmixI 0) (lvlM 2) : Int)) = true := by decide +kernel
  have w1 : Hid (Word 9223372036854775808) := ⟨by decide, by decide⟩
  have w2 : Hid (Word 10) := ⟨by decide, by decide⟩
  have w3 : Hid (Word 9) := ⟨by decide, by decide⟩
  have w4 : Hid (Word 0) := ⟨by decide, by decide⟩
  go_enter Try.func12, Try.ntmps12
  have hP := rng_perm 1 3 w
  rw [perm13] at hP
  have HP := Lib.hid hP
  clear hP
  go_wp2_with (go_at_call 24; refine (HP.out).mono ?_; rintro e w' ⟨⟨A, c, rfl, hc, hr⟩, hb⟩)
  obtain ⟨b, o, rfl, _, hall⟩ := hr.allI (zs := [0, 1, 2]) (by decide)
  have g0 : w'.cell? ⟨b, o, none⟩ = some (.int .i64 0) := hall 0 (by decide)
  have g1 : w'.cell? ⟨b, o + 1, none⟩ = some (.int .i64 1) := hall 1 (by decide)
  have g2 : w'.cell? ⟨b, o + 2, none⟩ = some (.int .i64 2) := hall 2 (by decide)
  clear hall hr hc
  have HB := Lib.hid hb
  clear hb
  go_quiet ((first
    | (go_at_call 19; refine quiet_eq (rng_below _ _ ?_ ?_ _) <;> first | exact w1.out | exact w2.out | exact w3.out | exact w4.out)
    | (go_at_call 13; exact quiet_eq (rng_mix _ _))
    | (go_at_call 15; exact quiet_eq (rng_unmix _ _))
    | (go_at_call 17; exact quiet_eq (rng_at _ _ _))
    | (go_at_call 21; exact quiet_eq (rng_level _ _ _))))
  go_wp2
  go_ret
  exact ⟨rfl, below_drewN HB.out _⟩
theorem perm_small (s : Int) (n : Int) : (permI s (permLen n)).length ≤ 4611686018427387904 := by rw [len_perm]; unfold permLen; omega
set_option maxHeartbeats 2000000 in
theorem rngTells_walk (x n links many : Int) (hx : Word x) (hn : Word n) (w : World) :
    Calls Try.prog 3 #[.int .u64 x, .int .u64 n, .int .i64 links, .int .i64 many] w fun e w' => e = .returned (.bool true) ∧ Below w.heap.size w w' := by
  have X := Lib.hid hx
  have Y := Lib.hid hn
  clear hx hn
  have es : sameB (permI x (permLen many)) (permI x (permLen many)) = true := decide_eq_true rfl
  have U := Lib.hid (runmixI_eq X.out)
  go_enter Try.func3, Try.ntmps3
  go_wp2_with (first
    | (go_at_call 12; refine (lives03 _).mono ?_; rintro e w1 ⟨rfl, hb1⟩)
    | (go_at_call 13; refine (rng_mix _ _).mono ?_; rintro e w' ⟨rfl, rfl⟩)
    | (go_at_call 14; refine (ref_mix _ _).mono ?_; rintro e w' ⟨rfl, rfl⟩; rw [rmixI_eq])
    | (go_at_call 15; refine (rng_unmix _ _).mono ?_; rintro e w' ⟨rfl, rfl⟩)
    | (go_at_call 16; refine (ref_unmix _ _).mono ?_; rintro e w' ⟨rfl, rfl⟩; rw [U.out])
    | (go_at_call 17; refine (rng_at _ _ _).mono ?_; rintro e w' ⟨rfl, rfl⟩)
    | (go_at_call 18; refine (ref_at _ _ _).mono ?_; rintro e w' ⟨rfl, rfl⟩; rw [ratI_eq])
    | (go_at_call 19; refine (rng_below _ _ X.out Y.out _).mono ?_; rintro e w' ⟨rfl, rfl⟩)
    | (go_at_call 20; refine (ref_below _ _ X.out Y.out _).mono ?_; rintro e w' ⟨rfl, rfl⟩)
    | (go_at_call 21; refine (rng_level _ _ _).mono ?_; rintro e w' ⟨rfl, rfl⟩)
    | (go_at_call 22; refine (ref_level _ _ _).mono ?_; rintro e w' ⟨rfl, rfl⟩)
    | (go_at_call 24; refine (rng_perm _ _ _).mono ?_; rintro e w2 ⟨⟨A, c, rfl, hc, hr⟩, hb2⟩)
    | (go_at_call 25; refine (ref_perm _ _ _).mono ?_; rintro e w3 ⟨⟨A', c', rfl, hc', hr'⟩, hb3⟩)
    | (go_at_call 23; refine (same_ints A A' _ _ c c' w3.heap.size _ _ _ ((hr.below hb3).more hb3.size) hr' (perm_small _ _) (perm_small _ _)).mono ?_; rintro e w4 ⟨rfl, q, rfl⟩))
  go_ret
  exact ⟨rfl, below_drewN (hb1.trans ((hb2.mono hb1.size).trans (hb3.mono (Nat.le_trans hb1.size hb2.size)))) _⟩
end Go.Proofs.Ytknnalaemndnaaa
