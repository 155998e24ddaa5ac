/- Getter: whether a call may be, by the program and by the document. -/
import Derived.Test.YtkhnnjeinpojkaaVecW
namespace Go.Proofs.Ytkhnnjeinpojkaa
open Go.RowKit
/-- A call's cells. -/
def callL (k id : Int) (V : Value) (tags kk ef dr : Int) : Array Value := #[.int .i64 k, .int .u64 id, V, .int .u64 tags, .int .i64 kk, .int .i64 ef, .int .u64 dr]
/-- Why a call may not be. -/
def vE (k kk ef : Int) (vec : List Int) (dim : Int) : Int :=
  if k = 4 ∧ (kk < 0 ∨ ef < 0 ∨ 4096 < ef) then 1 else if k = 1 ∨ k = 4 then vchkE vec dim else if k = 2 ∨ k = 3 ∨ k = 5 ∨ k = 6 then 0 else 1
theorem vchk_01 (xs : List Int) (dim : Int) : vchkE xs dim = 0 ∨ vchkE xs dim = 1 := by unfold vchkE; split <;> simp
set_option maxRecDepth 100000 in
set_option maxHeartbeats 1000000 in
theorem md_valid (k id tags kk ef dr dim : Int) (A : Option Addr) (n c : Nat) (vec : List Int) (w : World) (hr : Rd w w.heap.size A n (vec.map (.int .i32))) (hn : n ≤ 1048576) :
    Calls Try.prog 113 #[.agg (callL k id (.slice A n c) tags kk ef dr), .int .i64 dim] w fun e w' => e = .returned (.int .i64 (vE k kk ef vec dim)) ∧ Below w.heap.size w w' := by
  have hb0 : Below w.heap.size w (w.alloc (.cells (callL k id (.slice A n c) tags kk ef dr) 27)) := (Below.refl _ w).alloc (Nat.le_refl _) _
  have HC := Lib.hid (vec_check A n c _ vec dim _ ((hr.below hb0).more hb0.size) (by omega))
  have HB := Lib.hid hb0
  obtain ⟨y, hy⟩ : ∃ y, vchkE vec dim = y := ⟨_, rfl⟩
  rw [hy] at HC
  have HV : Hid (vE k kk ef vec dim = if k = 4 ∧ (kk < 0 ∨ ef < 0 ∨ 4096 < ef) then 1 else if k = 1 ∨ k = 4 then y else if k = 2 ∨ k = 3 ∨ k = 5 ∨ k = 6 then 0 else 1) := by show _ = _; rw [← hy]; rfl
  clear hr hb0 hy
  unfold callL at HC HB ⊢
  by_cases h4 : k = 4
  · subst h4
    cases t1 : decide (kk < 0) with
    | true =>
      have HR : Hid (vE 4 kk ef vec dim = 1) := by show _ = _; have := of_decide_eq_true t1; rw [HV.out, if_pos ⟨rfl, .inl this⟩]
      clear HV HC
      go_enter Try.func113, Try.ntmps113
      go_wp2_with fail
      go_ret
      exact ⟨by rw [HR.out]; rfl, HB.out⟩
    | false =>
      cases t2 : decide (ef < 0) with
      | true =>
        have HR : Hid (vE 4 kk ef vec dim = 1) := by show _ = _; have := of_decide_eq_true t2; rw [HV.out, if_pos ⟨rfl, .inr (.inl this)⟩]
        clear HV HC
        go_enter Try.func113, Try.ntmps113
        go_wp2_with fail
        go_ret
        exact ⟨by rw [HR.out]; rfl, HB.out⟩
      | false =>
        cases t3 : decide (ef > 4096) with
        | true =>
          have HR : Hid (vE 4 kk ef vec dim = 1) := by show _ = _; have := of_decide_eq_true t3; rw [HV.out, if_pos ⟨rfl, .inr (.inr this)⟩]
          clear HV HC
          go_enter Try.func113, Try.ntmps113
          go_wp2_with fail
          go_ret
          exact ⟨by rw [HR.out]; rfl, HB.out⟩
        | false =>
          have HR : Hid (vE 4 kk ef vec dim = y) := by
            show _ = _
            have h1 := of_decide_eq_false t1
            have h2 := of_decide_eq_false t2
            have h3 := of_decide_eq_false t3
            rw [HV.out, if_neg (by omega), if_pos (.inr rfl)]
          clear HV
          go_enter Try.func113, Try.ntmps113
          go_wp2_with fail
          refine HC.out.mono ?_
          rintro e w' ⟨rfl, rfl⟩
          go_wp2_with fail
          go_ret
          exact ⟨by rw [HR.out]; rfl, HB.out⟩
  · have g4 : (k == 4) = false := beq_false_of_ne h4
    by_cases h1 : k = 1
    · subst h1
      have HR : Hid (vE 1 kk ef vec dim = y) := by show _ = _; rw [HV.out, if_neg (by omega), if_pos (.inl rfl)]
      clear HV
      go_enter Try.func113, Try.ntmps113
      go_wp2_with fail
      refine HC.out.mono ?_
      rintro e w' ⟨rfl, rfl⟩
      go_wp2_with fail
      go_ret
      exact ⟨by rw [HR.out]; rfl, HB.out⟩
    · have g1 : (k == 1) = false := beq_false_of_ne h1
      by_cases h0 : k = 2 ∨ k = 3 ∨ k = 5 ∨ k = 6
      · have HR : Hid (vE k kk ef vec dim = 0) := by show _ = _; rw [HV.out, if_neg (by omega), if_neg (by omega), if_pos h0]
        clear HV HC h4 h1
        rcases h0 with rfl | rfl | rfl | rfl
        all_goals (
          go_enter Try.func113, Try.ntmps113
          go_wp2_with fail
          go_ret
          exact ⟨by rw [HR.out]; rfl, HB.out⟩)
      · have HR : Hid (vE k kk ef vec dim = 1) := by show _ = _; rw [HV.out, if_neg (by omega), if_neg (by omega), if_neg h0]
        have g2 : (k == 2) = false := beq_false_of_ne (by omega)
        have g3 : (k == 3) = false := beq_false_of_ne (by omega)
        have g5 : (k == 5) = false := beq_false_of_ne (by omega)
        have g6 : (k == 6) = false := beq_false_of_ne (by omega)
        clear HV HC h4 h1 h0
        go_enter Try.func113, Try.ntmps113
        go_wp2_with fail
        go_ret
        exact ⟨by rw [HR.out]; rfl, HB.out⟩
end Go.Proofs.Ytkhnnjeinpojkaa
