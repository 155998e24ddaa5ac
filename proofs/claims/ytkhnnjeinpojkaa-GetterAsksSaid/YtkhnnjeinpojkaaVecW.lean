/- Walks of package vec: what is right, distances, products. -/
import Derived.Test.YtkhnnjeinpojkaaVecP
import Derived.Lib.MinMax
import Derived.Laws.Externs
import Derived.Deep.DeepCutAuto
namespace Go.Proofs.Ytkhnnjeinpojkaa
open Go.RowKit
theorem comp_any (x : Int) (w : World) :
    Calls Try.prog 115 #[.int .i32 x] w fun e w' => e = .returned (.bool (compB x)) ∧ w = w' := by
  by_cases h : x < -16777216
  · have t : decide (x < -16777216) = true := by simp; omega
    have HE : Hid (compB x = true) := by show _ = _; unfold compB; rw [t]; rfl
    clear h
    go_enter Try.func115, Try.ntmps115
    go_wp2
    go_ret
    exact ⟨ret_bool HE.out.symm, rfl⟩
  · have t : decide (x < -16777216) = false := by simp; omega
    have HE : Hid (compB x = decide (16777216 < x)) := by show _ = _; unfold compB; rw [t]; rfl
    clear h
    go_enter Try.func115, Try.ntmps115
    go_wp2
    go_ret
    exact ⟨ret_bool HE.out.symm, rfl⟩
set_option maxRecDepth 100000 in
set_option maxHeartbeats 1000000 in
theorem idx_comp (A : Option Addr) (m c L : Nat) (xs : List Int) (w : World) (hr : Rd w L A m (xs.map (.int .i32))) (hm : m ≤ 9223372036854775807) :
    Calls Try.prog 117 #[.slice A m c, .func (.func 115) #[] #[]] w fun e w' => (∃ i : Int, e = .returned (.int .i64 i) ∧ decide (0 ≤ i) = xs.any compB) ∧ w = w' := by
  have HR := Lib.hid hr
  have HL : Hid (xs.length = m) := hr.lenI
  clear hr
  go_enter Try.func117, Try.ntmps117
  go_wp2
  go_loop [8] (fun i => ∃ k : Nat, k ≤ m ∧ i = .int .i64 k ∧ Hid ((xs.take k).any compB = false)) (fun i => m - (intOf i).toNat)
  case atStart => exact ⟨0, Nat.zero_le _, rfl, rfl⟩
  case round =>
    obtain ⟨k, hk, rfl, hv⟩ := hrel
    by_cases hlt : k < m
    · obtain ⟨b, o, rfl, _, hc⟩ := HR.out.atI hlt
      have hkl : k < xs.length := by rw [HL.out]; exact hlt
      have hmem : ig xs k ∈ xs := by rw [ig, List.getD_eq_getElem?_getD, List.getElem?_eq_getElem hkl]; simp
      have hst := take_step hkl
      obtain ⟨z, hz⟩ : ∃ z, ig xs k = z := ⟨_, rfl⟩
      rw [hz] at hc hmem hst
      have hca := comp_any z w
      cases hb : compB z with
      | true =>
        rw [hb] at hca
        have HA : Hid (xs.any compB = true) := List.any_eq_true.2 ⟨z, hmem, hb⟩
        have HC := Lib.hid hca
        clear hb hz hst hmem hca
        go_wp2_with fail
        refine HC.out.mono ?_
        rintro e w' ⟨rfl, rfl⟩
        go_wp2_with fail
        go_ret
        exact ⟨⟨_, rfl, by rw [HA.out]; simp⟩, rfl⟩
      | false =>
        rw [hb] at hca
        have HV : Hid ((xs.take (k + 1)).any compB = false) := by show _ = _; rw [hst, List.any_append, hv.out]; simp [hb]
        have HC := Lib.hid hca
        clear hb hz hst hmem hca
        go_wp2_with fail
        refine HC.out.mono ?_
        rintro e w' ⟨rfl, rfl⟩
        go_wp2_with fail
        go_round
        case rel => exact ⟨k + 1, by omega, by go_num, HV⟩
        case measure => simp [intOf]; omega
    · obtain rfl : k = m := by omega
      have HA : Hid (xs.any compB = false) := by have := hv.out; rw [← HL.out, List.take_length] at this; exact this
      go_wp2
      go_ret
      exact ⟨⟨_, rfl, by rw [HA.out]; rfl⟩, rfl⟩
set_option maxRecDepth 100000 in
theorem has_comp (A : Option Addr) (m c L : Nat) (xs : List Int) (w : World) (hr : Rd w L A m (xs.map (.int .i32))) (hm : m ≤ 9223372036854775807) :
    Calls Try.prog 116 #[.slice A m c, .func (.func 115) #[] #[]] w fun e w' => e = .returned (.bool (xs.any compB)) ∧ w = w' := by
  have h := Lib.hid (idx_comp A m c L xs w hr hm)
  clear hr
  go_enter Try.func116, Try.ntmps116
  go_wp2_with fail
  refine h.out.mono ?_
  rintro e w' ⟨⟨i, rfl, hi⟩, rfl⟩
  have HI := Lib.hid hi
  clear hi
  go_wp2_with fail
  go_ret
  exact ⟨ret_bool HI.out, rfl⟩
/-- Why a vector is not right; 0: it is. -/
def vchkE (xs : List Int) (dim : Int) : Int := if chkV xs dim then 0 else 1
set_option maxRecDepth 100000 in
set_option maxHeartbeats 1000000 in
theorem vec_check (A : Option Addr) (m c L : Nat) (xs : List Int) (dim : Int) (w : World) (hr : Rd w L A m (xs.map (.int .i32))) (hm : m ≤ 9223372036854775807) :
    Calls Try.prog 114 #[.slice A m c, .int .i64 dim] w fun e w' => e = .returned (.int .i64 (vchkE xs dim)) ∧ w = w' := by
  have hc := Lib.hid (has_comp A m c L xs w hr hm)
  have hl : xs.length = m := hr.lenI
  by_cases h : 1 ≤ dim ∧ dim ≤ 4096 ∧ (m : Int) = dim
  · obtain ⟨h1, h2, h3⟩ := h
    have t1 : decide (dim < 1) = false := by simp; omega
    have t2 : decide (4096 < dim) = false := by simp; omega
    have t3 : ((m : Int) != dim) = false := by simp; omega
    have HE : Hid (vchkE xs dim = if !(xs.any compB) then 0 else 1) := by
      show _ = _; unfold vchkE chkV; rw [decide_eq_true ⟨h1, h2, by omega⟩]; rfl
    cases hb : xs.any compB with
    | false =>
      rw [hb] at hc HE
      clear hr hl h1 h2 h3 hb
      go_enter Try.func114, Try.ntmps114
      go_wp2_with (go_at_call 116; refine hc.out.mono ?_; rintro e w' ⟨rfl, rfl⟩)
      go_ret
      exact ⟨ret_int HE.out.symm, rfl⟩
    | true =>
      rw [hb] at hc HE
      clear hr hl h1 h2 h3 hb
      go_enter Try.func114, Try.ntmps114
      go_wp2_with (go_at_call 116; refine hc.out.mono ?_; rintro e w' ⟨rfl, rfl⟩)
      go_ret
      exact ⟨ret_int HE.out.symm, rfl⟩
  · have HE : Hid (vchkE xs dim = 1) := by
      show _ = _; unfold vchkE chkV; rw [decide_eq_false (by rw [hl]; exact h)]; rfl
    have T : Hid (decide (dim < 1) = true ∨ (decide (dim < 1) = false ∧ decide (4096 < dim) = true) ∨ (decide (dim < 1) = false ∧ decide (4096 < dim) = false ∧ ((m : Int) != dim) = true)) := by
      show _ ∨ _
      simp; omega
    clear h hr hl hc
    rcases T.out with t1 | ⟨t1, t2⟩ | ⟨t1, t2, t3⟩
    all_goals
      go_enter Try.func114, Try.ntmps114
      go_wp2
      go_ret
      exact ⟨ret_int HE.out.symm, rfl⟩
/-- What Dist goes through: the longer one first. -/
def DistIn (w : World) (L : Nat) (D : Nat) (a b : Value) : Prop := ∃ (A : Option Addr) (m c : Nat) (xs : List Int) (B : Option Addr) (m' c' : Nat) (ys : List Int), a = .slice A m c ∧ b = .slice B m' c' ∧ m' ≤ m ∧ m ≤ 9223372036854775807 ∧
  Rd w L A m (xs.map (.int .i32)) ∧ Rd w L B m' (ys.map (.int .i32)) ∧ (∀ z ∈ xs, -2147483648 ≤ z ∧ z ≤ 2147483647) ∧ (∀ z ∈ ys, -2147483648 ≤ z ∧ z ≤ 2147483647) ∧ distE xs ys = D
theorem bd_ig {zs : List Int} (h : ∀ z ∈ zs, -2147483648 ≤ z ∧ z ≤ 2147483647) (k : Nat) : -2147483648 ≤ ig zs k ∧ ig zs k ≤ 2147483647 := by
  rcases Nat.lt_or_ge k zs.length with q | q
  · refine h _ ?_; rw [ig, List.getD_eq_getElem?_getD, List.getElem?_eq_getElem q]; simp
  · rw [ig, List.getD_eq_getElem?_getD, List.getElem?_eq_none q]; exact ⟨by decide, by decide⟩
theorem dot_wrap (a b : Int) : IntKind.i64.wrap (IntKind.i64.wrap a + b) = IntKind.i64.wrap (a + b) := by
  rw [IntKind.wrap_i64, IntKind.wrap_i64, IntKind.wrap_i64]; omega
theorem prod_bd {x y : Int} (hx : -2147483648 ≤ x ∧ x ≤ 2147483647) (hy : -2147483648 ≤ y ∧ y ≤ 2147483647) : -4611686018427387904 ≤ x * y ∧ x * y ≤ 4611686018427387904 := by
  have h : (x * y).natAbs ≤ 2147483648 * 2147483648 := by rw [Int.natAbs_mul]; exact Nat.mul_le_mul (by omega) (by omega)
  omega
end Go.Proofs.Ytkhnnjeinpojkaa
