/- Walk of the law TopCutDist. -/
import Derived.Test.YtbhdkimjjopaaaaTop03
namespace Go.Proofs.Ytbhdkimjjopaaaa
open Go.RowKit
theorem chk_ne {xs : List Int} {dim : Int} (h : chkV xs dim = false) : (chkE xs dim != 0) = true := by unfold chkE; rw [h]; rfl
theorem chk_eq {xs : List Int} {dim : Int} (h : chkV xs dim = true) : (chkE xs dim != 0) = false := by unfold chkE; rw [h]; rfl
theorem elem32 : ∀ w, (sizeOf (Try.prog.elem 22)).run Try.prog w = .ok 1 w := fun w => by kernel_rfl
set_option maxRecDepth 100000 in
set_option maxHeartbeats 2000000 in
theorem topCut_out (A : Option Addr) (m c : Nat) (xs : List Int) (B : Option Addr) (m' c' : Nat) (ys : List Int) (at_ : Int) (w : World) (hr : Rd w w.heap.size A m (xs.map (.int .i32))) (hr' : Rd w w.heap.size B m' (ys.map (.int .i32))) (hm : m ≤ 9223372036854775807) (hm' : m' ≤ 9223372036854775807)
    (h : chkV xs m = false ∨ chkV ys m = false ∨ at_ < 0 ∨ (m : Int) < at_) :
    Calls Try.prog 3 #[.slice A m c, .slice B m' c', .int .i64 at_] w fun e w' => e = .returned (.bool true) ∧ Below w.heap.size w w' := by
  have T : Hid ((chkE xs m != 0) = true ∨ ((chkE xs m != 0) = false ∧ (chkE ys m != 0) = true) ∨ ((chkE xs m != 0) = false ∧ (chkE ys m != 0) = false ∧ decide (at_ < 0) = true) ∨ ((chkE xs m != 0) = false ∧ (chkE ys m != 0) = false ∧ decide (at_ < 0) = false ∧ decide ((m : Int) < at_) = true)) := by
    show _ ∨ _
    cases h1 : chkV xs m with
    | false => exact Or.inl (chk_ne h1)
    | true =>
      cases h2 : chkV ys m with
      | false => exact Or.inr (Or.inl ⟨chk_eq h1, chk_ne h2⟩)
      | true =>
        rw [h1, h2] at h
        have e1 := chk_eq h1
        have e2 := chk_eq h2
        simp at h
        rcases h with h | h
        · exact Or.inr (Or.inr (Or.inl ⟨e1, e2, decide_eq_true h⟩))
        · by_cases h0 : at_ < 0
          · exact Or.inr (Or.inr (Or.inl ⟨e1, e2, decide_eq_true h0⟩))
          · exact Or.inr (Or.inr (Or.inr ⟨e1, e2, decide_eq_false h0, decide_eq_true h⟩))
  have X := Lib.hid hr
  have Y := Lib.hid hr'
  clear hr hr' h
  obtain ⟨x, hx⟩ : ∃ x, chkE xs m = x := ⟨_, rfl⟩
  obtain ⟨y, hy⟩ : ∃ y, chkE ys m = y := ⟨_, rfl⟩
  rw [hx, hy] at T
  have HX := Lib.hid hx
  have HY := Lib.hid hy
  clear hx hy
  rcases T.out with t1 | ⟨t1, t2⟩ | ⟨t1, t2, t3⟩ | ⟨t1, t2, t3, t4⟩
  all_goals
    go_enter Try.func3, Try.ntmps3
    go_wp2_with fail
    refine (begins3_any w).mono ?_
    rintro e w1 ⟨rfl, B1⟩
    have c1 := Lib.hid (vec_check A m c _ xs m w1 (X.out.below B1) hm)
    have c2 := Lib.hid (vec_check B m' c' _ ys m w1 (Y.out.below B1) hm')
    rw [HX.out] at c1
    rw [HY.out] at c2
    go_wp2_with (first
      | (go_at_call 16; (with_reducible refine c1.out.mono ?_); rintro e w' ⟨rfl, rfl⟩)
      | (go_at_call 16; (with_reducible refine c2.out.mono ?_); rintro e w' ⟨rfl, rfl⟩))
    go_ret
    exact ⟨rfl, B1⟩
set_option maxRecDepth 100000 in
set_option maxHeartbeats 4000000 in
theorem topCut_walk (A : Option Addr) (m c : Nat) (xs : List Int) (B : Option Addr) (c' : Nat) (ys : List Int) (k : Nat) (w : World) (hr : Rd w w.heap.size A m (xs.map (.int .i32))) (hr' : Rd w w.heap.size B m (ys.map (.int .i32))) (hm : m ≤ 9223372036854775807)
    (hc : m ≤ c) (hc' : m ≤ c') (hx : ∀ z ∈ xs, -2147483648 ≤ z ∧ z ≤ 2147483647) (hy : ∀ z ∈ ys, -2147483648 ≤ z ∧ z ≤ 2147483647) (h1 : chkV xs m = true) (h2 : chkV ys m = true) (hk : k ≤ m) :
    Calls Try.prog 3 #[.slice A m c, .slice B m c', .int .i64 k] w fun e w' => e = .returned (.bool true) ∧ Below w.heap.size w w' := by
  obtain ⟨l1, l2, l3, l4, l5⟩ := cut_law h1 h2 hk
  have t1 := chk_eq h1
  have t2 := chk_eq h2
  have t3 : decide ((k : Int) < 0) = false := by simp
  have t4 : decide (m < k) = false := by simp; omega
  have X := Lib.hid hr
  have Y := Lib.hid hr'
  have BX := Lib.hid hx
  have BY := Lib.hid hy
  have BX1 : Hid (∀ z ∈ xs.take k, -2147483648 ≤ z ∧ z ≤ 2147483647) := fun z hz => hx z (List.mem_of_mem_take hz)
  have BY1 : Hid (∀ z ∈ ys.take k, -2147483648 ≤ z ∧ z ≤ 2147483647) := fun z hz => hy z (List.mem_of_mem_take hz)
  have BX2 : Hid (∀ z ∈ xs.drop k, -2147483648 ≤ z ∧ z ≤ 2147483647) := fun z hz => hx z (List.mem_of_mem_drop hz)
  have BY2 : Hid (∀ z ∈ ys.drop k, -2147483648 ≤ z ∧ z ≤ 2147483647) := fun z hz => hy z (List.mem_of_mem_drop hz)
  obtain ⟨d1, e1⟩ : ∃ d, distE xs ys = d := ⟨_, rfl⟩
  obtain ⟨d2, e2⟩ : ∃ d, distE (xs.take k) (ys.take k) = d := ⟨_, rfl⟩
  obtain ⟨d3, e3⟩ : ∃ d, distE (xs.drop k) (ys.drop k) = d := ⟨_, rfl⟩
  obtain ⟨p1, f1⟩ : ∃ d, dotE xs ys = d := ⟨_, rfl⟩
  obtain ⟨p2, f2⟩ : ∃ d, dotE (xs.take k) (ys.take k) = d := ⟨_, rfl⟩
  obtain ⟨p3, f3⟩ : ∃ d, dotE (xs.drop k) (ys.drop k) = d := ⟨_, rfl⟩
  rw [e1, e2, e3] at l1
  rw [e1] at l2
  rw [f1, f2, f3] at l3
  rw [f1] at l4 l5
  have E1 := Lib.hid e1
  have E2 := Lib.hid e2
  have E3 := Lib.hid e3
  have F1 := Lib.hid f1
  have F2 := Lib.hid f2
  have F3 := Lib.hid f3
  have s1 := fun w => run_hi (P := Try.prog) Try.underlying22 elem32 A m c k (by omega) w
  have s2 := fun w => run_hi (P := Try.prog) Try.underlying22 elem32 B m c' k (by omega) w
  have s3 := fun w => run_from (P := Try.prog) Try.underlying22 elem32 A m c k hk w
  have s4 := fun w => run_from (P := Try.prog) Try.underlying22 elem32 B m c' k hk w
  have S1 := Lib.hid s1
  have S2 := Lib.hid s2
  have S3 := Lib.hid s3
  have S4 := Lib.hid s4
  obtain ⟨A2, hA2⟩ : ∃ A2, subA A k c = A2 := ⟨_, rfl⟩
  obtain ⟨B2, hB2⟩ : ∃ B2, subA B k c' = B2 := ⟨_, rfl⟩
  have X1 := Lib.hid (hr.take1 hk)
  have Y1 := Lib.hid (hr'.take1 hk)
  have X2 := hr.drop1 hk hc
  have Y2 := hr'.drop1 hk hc'
  rw [hA2] at S3 X2
  rw [hB2] at S4 Y2
  have HX2 := Lib.hid X2
  have HY2 := Lib.hid Y2
  obtain ⟨x, hcx⟩ : ∃ x, chkE xs m = x := ⟨_, rfl⟩
  obtain ⟨y, hcy⟩ : ∃ y, chkE ys m = y := ⟨_, rfl⟩
  rw [hcx] at t1
  rw [hcy] at t2
  have HCX := Lib.hid hcx
  have HCY := Lib.hid hcy
  have W1 := Lib.hid (show IntKind.u64.wrap ((d2 : Int) + (d3 : Int)) = (d1 : Int) by rw [wrap_u64]; omega)
  have W2 := Lib.hid (show IntKind.i64.wrap (p2 + p3) = p1 by rw [← l3]; exact IntWalk.i64_in _ (by omega))
  clear hr hr' hx hy h1 h2 e1 e2 e3 f1 f2 f3 s1 s2 s3 s4 hA2 hB2 X2 Y2 hcx hcy l1 l2 l3 l4 l5 hk
  go_enter Try.func3, Try.ntmps3
  go_wp2_with fail
  refine (begins3_any w).mono ?_
  rintro e w1 ⟨rfl, B1⟩
  have c1 := Lib.hid (vec_check A m c _ xs m w1 (X.out.below B1) hm)
  have c2 := Lib.hid (vec_check B m c' _ ys m w1 (Y.out.below B1) hm)
  rw [HCX.out] at c1
  rw [HCY.out] at c2
  go_wp2_with (first
    | (go_at_call 16; (with_reducible refine c1.out.mono ?_); rintro e w' ⟨rfl, rfl⟩)
    | (go_at_call 16; (with_reducible refine c2.out.mono ?_); rintro e w' ⟨rfl, rfl⟩))
  have D1 := Lib.hid (fun n => vec_dist A m c xs B m c' ys _ (w1.drewN n) (X.out.below (below_drewN B1 n)) (Y.out.below (below_drewN B1 n)) BX.out BY.out hm hm)
  have D2 := Lib.hid (fun n => vec_dist A k c (xs.take k) B k c' (ys.take k) _ (w1.drewN n) (X1.out.below (below_drewN B1 n)) (Y1.out.below (below_drewN B1 n)) BX1.out BY1.out (by have := X.out.lenI; have := X1.out.lenI; simp at this; omega) (by have := X.out.lenI; have := X1.out.lenI; simp at this; omega))
  have D3 := Lib.hid (fun n => vec_dist A2 (m - k) (c - k) (xs.drop k) B2 (m - k) (c' - k) (ys.drop k) _ (w1.drewN n) (HX2.out.below (below_drewN B1 n)) (HY2.out.below (below_drewN B1 n)) BX2.out BY2.out (by omega) (by omega))
  have P1 := Lib.hid (fun n => vec_dot A m c xs B m c' ys _ (w1.drewN n) (X.out.below (below_drewN B1 n)) (Y.out.below (below_drewN B1 n)) BX.out BY.out hm hm)
  have P2 := Lib.hid (fun n => vec_dot A k c (xs.take k) B k c' (ys.take k) _ (w1.drewN n) (X1.out.below (below_drewN B1 n)) (Y1.out.below (below_drewN B1 n)) BX1.out BY1.out (by have := X.out.lenI; have := X1.out.lenI; simp at this; omega) (by have := X.out.lenI; have := X1.out.lenI; simp at this; omega))
  have P3 := Lib.hid (fun n => vec_dot A2 (m - k) (c - k) (xs.drop k) B2 (m - k) (c' - k) (ys.drop k) _ (w1.drewN n) (HX2.out.below (below_drewN B1 n)) (HY2.out.below (below_drewN B1 n)) BX2.out BY2.out (by omega) (by omega))
  rw [E1.out] at D1
  rw [E2.out] at D2
  rw [E3.out] at D3
  rw [F1.out] at P1
  rw [F2.out] at P2
  rw [F3.out] at P3
  have s1 := S1.out
  have s2 := S2.out
  have s3 := S3.out
  have s4 := S4.out
  have wv1 := W1.out
  have wv2 := W2.out
  go_quiet ((first
    | (go_at_call 17; with_reducible exact quiet_eq (D1.out _))
    | (go_at_call 17; with_reducible exact quiet_eq (D2.out _))
    | (go_at_call 17; with_reducible exact quiet_eq (D3.out _))
    | (go_at_call 18; with_reducible exact quiet_add (P1.out _))
    | (go_at_call 18; with_reducible exact quiet_add (P2.out _))
    | (go_at_call 18; with_reducible exact quiet_add (P3.out _))))
  clear wv1 wv2 s1 s2 s3 s4
  go_wp2
  go_ret
  exact ⟨rfl, below_drewN B1 _⟩
theorem topCut_any (A : Option Addr) (m c : Nat) (xs : List Int) (B : Option Addr) (m' c' : Nat) (ys : List Int) (at_ : Int) (w : World) (hr : Rd w w.heap.size A m (xs.map (.int .i32))) (hr' : Rd w w.heap.size B m' (ys.map (.int .i32)))
    (hc : m ≤ c ∧ c ≤ maxLen) (hc' : m' ≤ c' ∧ c' ≤ maxLen) (hx : ∀ z ∈ xs, -2147483648 ≤ z ∧ z ≤ 2147483647) (hy : ∀ z ∈ ys, -2147483648 ≤ z ∧ z ≤ 2147483647) :
    Calls Try.prog 3 #[.slice A m c, .slice B m' c', .int .i64 at_] w fun e w' => e = .returned (.bool true) ∧ Below w.heap.size w w' := by
  have hm : m ≤ 9223372036854775807 := by have := hc.2; unfold maxLen at this; omega
  have hm' : m' ≤ 9223372036854775807 := by have := hc'.2; unfold maxLen at this; omega
  by_cases h : chkV xs m = false ∨ chkV ys m = false ∨ at_ < 0 ∨ (m : Int) < at_
  · exact topCut_out A m c xs B m' c' ys at_ w hr hr' hm hm' h
  · simp only [not_or, Bool.not_eq_false] at h
    obtain ⟨h1, h2, h3, h4⟩ := h
    obtain ⟨k, rfl⟩ := Int.eq_ofNat_of_zero_le (show 0 ≤ at_ by omega)
    have hl := (chk_open h2).2.2.1
    have hl2 := hr'.lenI
    obtain rfl : m' = m := by omega
    exact topCut_walk A m' c xs B c' ys k w hr hr' hm hc.1 hc'.1 hx hy h1 h2 (by omega)
end Go.Proofs.Ytbhdkimjjopaaaa
