/- Getter: whether a call may be, by the document; openings; what is pinned. -/
import Derived.Test.YtkhnnjeinpojkaaGtV
namespace Go.Proofs.Ytkhnnjeinpojkaa
open Go.RowKit
theorem vchk_dim {vec : List Int} {dim : Int} (h : ¬ (1 ≤ dim ∧ dim ≤ 4096 ∧ (vec.length : Int) = dim)) : vchkE vec dim = 1 := by
  unfold vchkE chkV; rw [decide_eq_false h]; rfl
theorem vchk_bad {vec : List Int} {dim : Int} {k : Nat} (hk : k < vec.length) (h : compB (ig vec k) = true) : vchkE vec dim = 1 := by
  have hm : ig vec k ∈ vec := by rw [ig, List.getD_eq_getElem?_getD, List.getElem?_eq_getElem hk]; simp
  have ha : vec.any compB = true := List.any_eq_true.2 ⟨_, hm, h⟩
  unfold vchkE chkV; rw [ha]; simp
theorem vchk_ok {vec : List Int} {dim : Int} (h : 1 ≤ dim ∧ dim ≤ 4096 ∧ (vec.length : Int) = dim) (hc : ∀ k, k < vec.length → compB (ig vec k) = false) : vchkE vec dim = 0 := by
  have ha : vec.any compB = false := by
    rw [Bool.eq_false_iff]
    intro e
    obtain ⟨z, hz, hb⟩ := List.any_eq_true.1 e
    obtain ⟨k, hk, rfl⟩ := List.getElem_of_mem hz
    have := hc k hk
    rw [show ig vec k = vec[k] by simp [ig, List.getD_eq_getElem?_getD, hk]] at this
    rw [this] at hb; cases hb
  unfold vchkE chkV; rw [decide_eq_true h, ha]; rfl
set_option maxRecDepth 100000 in
set_option maxHeartbeats 1000000 in
theorem ref_check5 (A : Option Addr) (n c : Nat) (vec : List Int) (dim : Int) (w : World) (hr : Rd w w.heap.size A n (vec.map (.int .i32))) (hn : n ≤ 1048576) :
    Calls Try.prog 110 #[.slice A n c, .int .i64 dim] w fun e w' => e = .returned (.int .i64 (vchkE vec dim)) ∧ w = w' := by
  have hl : vec.length = n := hr.lenI
  by_cases hd : 1 ≤ dim ∧ dim ≤ 4096 ∧ (vec.length : Int) = dim
  · have t1 : decide (dim < 1) = false := by simp; omega
    have t2 : decide (dim > 4096) = false := by simp; omega
    have t3 : ((n : Int) != dim) = false := by simp; omega
    have HR := Lib.hid hr
    have HL := Lib.hid hl
    have HD := Lib.hid hd
    clear hr hd hl
    go_enter Try.func110, Try.ntmps110
    go_wp2_with fail
    go_loopw [21] (fun i wx => ∃ k : Nat, k ≤ n ∧ i = .int .i64 k ∧ w = wx ∧ Hid (∀ j, j < k → compB (ig vec j) = false)) (fun i _ => n - (intOf i).toNat)
    case atStart => exact ⟨0, Nat.zero_le _, rfl, rfl, fun j hj => by omega⟩
    case round =>
      obtain ⟨k, hk, rfl, rfl, hv⟩ := hrel
      by_cases hlt : k < n
      · obtain ⟨b, o, rfl, hb, hc⟩ := HR.out.atI hlt
        obtain ⟨x, hx⟩ : ∃ x, ig vec k = x := ⟨_, rfl⟩
        rw [hx] at hc
        have HX := Lib.hid hx
        clear hx
        cases q1 : decide (x < -16777216) with
        | true =>
          have HF : Hid (vchkE vec dim = 1) := by
            show _ = _
            exact vchk_bad (k := k) (by have := HL.out; omega) (by rw [HX.out]; unfold compB; rw [q1]; rfl)
          go_wp2_with fail
          go_ret
          exact ⟨by rw [HF.out]; rfl, rfl⟩
        | false =>
          cases q2 : decide (x > 16777216) with
          | true =>
            have HF : Hid (vchkE vec dim = 1) := by
              show _ = _
              refine vchk_bad (k := k) (by have := HL.out; omega) ?_
              rw [HX.out]; unfold compB
              rw [show decide (16777216 < x) = true from q2]; simp
            go_wp2_with fail
            go_ret
            exact ⟨by rw [HF.out]; rfl, rfl⟩
          | false =>
            have HV2 : Hid (∀ j, j < k + 1 → compB (ig vec j) = false) := fun j hj => by
              by_cases e : j = k
              · rw [e, HX.out]; unfold compB; rw [q1, show decide (16777216 < x) = false from q2]; rfl
              · exact hv.out j (by omega)
            go_wp2_with fail
            go_roundw
            case rel => exact ⟨k + 1, hlt, by go_num, trivial, HV2⟩
            case measure => simp [intOf]; omega
      · obtain rfl : k = n := by omega
        have HF : Hid (vchkE vec dim = 0) := by show _ = _; exact vchk_ok HD.out (by rw [HL.out]; exact hv.out)
        go_wp2_with fail
        go_ret
        exact ⟨by rw [HF.out]; rfl, rfl⟩
  · have HF : Hid (vchkE vec dim = 1) := by show _ = _; exact vchk_dim hd
    cases t1 : decide (dim < 1) with
    | true =>
      clear hr hd hl
      go_enter Try.func110, Try.ntmps110
      go_wp2_with fail
      go_ret
      exact ⟨by rw [HF.out]; rfl, rfl⟩
    | false =>
      cases t2 : decide (dim > 4096) with
      | true =>
        clear hr hd hl
        go_enter Try.func110, Try.ntmps110
        go_wp2_with fail
        go_ret
        exact ⟨by rw [HF.out]; rfl, rfl⟩
      | false =>
        have t3 : ((n : Int) != dim) = true := by
          have h1 := of_decide_eq_false t1
          have h2 := of_decide_eq_false t2
          simp; omega
        clear hr hd hl
        go_enter Try.func110, Try.ntmps110
        go_wp2_with fail
        go_ret
        exact ⟨by rw [HF.out]; rfl, rfl⟩
set_option maxRecDepth 100000 in
set_option maxHeartbeats 1000000 in
theorem ref_valid (k id tags kk ef dr dim : Int) (A : Option Addr) (n c : Nat) (vec : List Int) (w : World) (hr : Rd w w.heap.size A n (vec.map (.int .i32))) (hn : n ≤ 1048576) :
    Calls Try.prog 91 #[.agg (callL k id (.slice A n c) tags kk ef dr), .int .i64 dim] w fun e w' => e = .returned (.int .i64 (vE k kk ef vec dim)) ∧ Below w.heap.size w w' := by
  have hb0 : Below w.heap.size w (w.alloc (.cells (callL k id (.slice A n c) tags kk ef dr) 27)) := (Below.refl _ w).alloc (Nat.le_refl _) _
  have HC := Lib.hid (ref_check5 A n c vec dim _ ((hr.below hb0).more hb0.size) hn)
  have HB := Lib.hid hb0
  have hy01 := vchk_01 vec dim
  obtain ⟨y, hy⟩ : ∃ y, vchkE vec dim = y := ⟨_, rfl⟩
  rw [hy] at HC hy01
  have HV : Hid (vE k kk ef vec dim = if k = 4 ∧ (kk < 0 ∨ ef < 0 ∨ 4096 < ef) then 1 else if k = 1 ∨ k = 4 then y else if k = 2 ∨ k = 3 ∨ k = 5 ∨ k = 6 then 0 else 1) := by show _ = _; rw [← hy]; rfl
  clear hr hb0 hy
  unfold callL at HC HB ⊢
  by_cases hlo : k < 1 ∨ 6 < k
  · have HR : Hid (vE k kk ef vec dim = 1) := by show _ = _; rw [HV.out, if_neg (by omega), if_neg (by omega), if_neg (by omega)]
    clear HV HC
    cases t1 : decide (k < 1) with
    | true =>
      clear hlo
      go_enter Try.func91, Try.ntmps91
      go_wp2_with fail
      go_ret
      exact ⟨by rw [HR.out]; rfl, HB.out⟩
    | false =>
      have t2 : decide (k > 6) = true := by have := of_decide_eq_false t1; simp; omega
      clear hlo
      go_enter Try.func91, Try.ntmps91
      go_wp2_with fail
      go_ret
      exact ⟨by rw [HR.out]; rfl, HB.out⟩
  · rcases (by omega : k = 1 ∨ k = 4 ∨ (k = 2 ∨ k = 3 ∨ k = 5 ∨ k = 6)) with rfl | rfl | h0
    · have HR : Hid (vE 1 kk ef vec dim = y) := by show _ = _; rw [HV.out, if_neg (by omega), if_pos (.inl rfl)]
      clear HV hlo
      rcases hy01 with rfl | rfl
      all_goals (
        go_enter Try.func91, Try.ntmps91
        go_wp2_with fail
        refine HC.out.mono ?_
        rintro e w' ⟨rfl, rfl⟩
        go_wp2_with fail
        go_ret
        exact ⟨by rw [HR.out]; rfl, HB.out⟩)
    · clear hlo
      rcases hy01 with rfl | rfl
      · by_cases hbad : kk < 0 ∨ ef < 0 ∨ 4096 < ef
        · have HR : Hid (vE 4 kk ef vec dim = 1) := by show _ = _; rw [HV.out, if_pos ⟨rfl, hbad⟩]
          clear HV
          cases t1 : decide (kk < 0) with
          | true =>
            clear hbad
            go_enter Try.func91, Try.ntmps91
            go_wp2_with fail
            refine HC.out.mono ?_
            rintro e w' ⟨rfl, rfl⟩
            go_wp2_with fail
            go_ret
            exact ⟨by rw [HR.out]; rfl, HB.out⟩
          | false =>
            cases t2 : decide (ef < 0) with
            | true =>
              clear hbad
              go_enter Try.func91, Try.ntmps91
              go_wp2_with fail
              refine HC.out.mono ?_
              rintro e w' ⟨rfl, rfl⟩
              go_wp2_with fail
              go_ret
              exact ⟨by rw [HR.out]; rfl, HB.out⟩
            | false =>
              have t3 : decide (ef > 4096) = true := by
                have h1 := of_decide_eq_false t1
                have h2 := of_decide_eq_false t2
                simp; omega
              clear hbad
              go_enter Try.func91, Try.ntmps91
              go_wp2_with fail
              refine HC.out.mono ?_
              rintro e w' ⟨rfl, rfl⟩
              go_wp2_with fail
              go_ret
              exact ⟨by rw [HR.out]; rfl, HB.out⟩
        · have HR : Hid (vE 4 kk ef vec dim = 0) := by show _ = _; rw [HV.out, if_neg (by omega), if_pos (.inr rfl)]
          have t1 : decide (kk < 0) = false := by simp; omega
          have t2 : decide (ef < 0) = false := by simp; omega
          have t3 : decide (ef > 4096) = false := by simp; omega
          clear HV hbad
          go_enter Try.func91, Try.ntmps91
          go_wp2_with fail
          refine HC.out.mono ?_
          rintro e w' ⟨rfl, rfl⟩
          go_wp2_with fail
          go_ret
          exact ⟨by rw [HR.out]; rfl, HB.out⟩
      · have HR : Hid (vE 4 kk ef vec dim = 1) := by
          show _ = _; rw [HV.out]; split
          · rfl
          · rw [if_pos (.inr rfl)]
        clear HV
        go_enter Try.func91, Try.ntmps91
        go_wp2_with fail
        refine HC.out.mono ?_
        rintro e w' ⟨rfl, rfl⟩
        go_wp2_with fail
        go_ret
        exact ⟨by rw [HR.out]; rfl, HB.out⟩
    · have HR : Hid (vE k kk ef vec dim = 0) := by show _ = _; rw [HV.out, if_neg (by omega), if_neg (by omega), if_pos h0]
      clear HV HC hlo
      rcases h0 with rfl | rfl | rfl | rfl
      all_goals (
        go_enter Try.func91, Try.ntmps91
        go_wp2_with fail
        go_ret
        exact ⟨by rw [HR.out]; rfl, HB.out⟩)
/-- An answer's cells. -/
def gotL (ok : Bool) (n m : Int) (L : Value) (id : Int) (V : Value) (tags : Int) : Array Value := #[.bool ok, .int .i64 n, .int .i64 m, L, .int .u64 id, V, .int .u64 tags]
def openE (k kk ef : Int) (vec : List Int) (dim : Int) (ok : Bool) : Int := if ok then 5 else vE k kk ef vec dim
set_option maxRecDepth 100000 in
theorem gt_open (k id tags kk ef dr dim : Int) (A : Option Addr) (n c : Nat) (vec : List Int) (ok : Bool) (gn gm : Int) (gL : Value) (gid : Int) (gV : Value) (gt : Int) (w : World) (hr : Rd w w.heap.size A n (vec.map (.int .i32))) (hn : n ≤ 1048576) :
    Calls Try.prog 111 #[.agg (callL k id (.slice A n c) tags kk ef dr), .int .i64 dim, .agg (gotL ok gn gm gL gid gV gt)] w fun e w' => e = .returned (.int .i64 (openE k kk ef vec dim ok)) ∧ Below w.heap.size w w' := by
  have hb1 : Below w.heap.size w (w.alloc (.cells (callL k id (.slice A n c) tags kk ef dr) 27)) := (Below.refl _ w).alloc (Nat.le_refl _) _
  have hb2 := hb1.alloc (o := .cells (gotL ok gn gm gL gid gV gt) 42) hb1.size
  have HB := Lib.hid hb2
  have HV := Lib.hid (md_valid k id tags kk ef dr dim A n c vec _ ((hr.below hb2).more hb2.size) hn)
  clear hb1 hb2 hr
  unfold callL gotL at *
  cases ok with
  | true =>
    go_enter Try.func111, Try.ntmps111
    go_wp2_with fail
    go_ret
    exact ⟨rfl, HB.out⟩
  | false =>
    go_enter Try.func111, Try.ntmps111
    go_wp2_with fail
    refine HV.out.mono ?_
    rintro e w2 ⟨rfl, hb⟩
    have HB2 := Lib.hid (HB.out.trans (hb.mono HB.out.size))
    clear hb HV HB
    go_wp2_with fail
    go_ret
    exact ⟨rfl, HB2.out⟩
set_option maxRecDepth 100000 in
theorem ref_open (k id tags kk ef dr dim : Int) (A : Option Addr) (n c : Nat) (vec : List Int) (ok : Bool) (gn gm : Int) (gL : Value) (gid : Int) (gV : Value) (gt : Int) (w : World) (hr : Rd w w.heap.size A n (vec.map (.int .i32))) (hn : n ≤ 1048576) :
    Calls Try.prog 64 #[.agg (callL k id (.slice A n c) tags kk ef dr), .int .i64 dim, .agg (gotL ok gn gm gL gid gV gt)] w fun e w' => e = .returned (.int .i64 (openE k kk ef vec dim ok)) ∧ Below w.heap.size w w' := by
  have hb1 : Below w.heap.size w (w.alloc (.cells (callL k id (.slice A n c) tags kk ef dr) 27)) := (Below.refl _ w).alloc (Nat.le_refl _) _
  have hb2 := hb1.alloc (o := .cells (gotL ok gn gm gL gid gV gt) 42) hb1.size
  have HB := Lib.hid hb2
  have HV := Lib.hid (ref_valid k id tags kk ef dr dim A n c vec _ ((hr.below hb2).more hb2.size) hn)
  clear hb1 hb2 hr
  unfold callL gotL at *
  cases ok with
  | true =>
    go_enter Try.func64, Try.ntmps64
    go_wp2_with fail
    go_ret
    exact ⟨rfl, HB.out⟩
  | false =>
    go_enter Try.func64, Try.ntmps64
    go_wp2_with fail
    refine HV.out.mono ?_
    rintro e w2 ⟨rfl, hb⟩
    have HB2 := Lib.hid (HB.out.trans (hb.mono HB.out.size))
    clear hb HV HB
    go_wp2_with fail
    go_ret
    exact ⟨rfl, HB2.out⟩
/-- What is pinned of an epoch. -/
def recE (n : Int) : Int := if n < 0 ∨ 4611686018427387904 < n then 1 else n + 1
theorem rec_run (f : Nat) (n : Int) (w : World) (h : ∀ (t1 t2 : Bool), decide (n < 0) = t1 → decide (n > 4611686018427387904) = t2 → (t1 = false → t2 = false → IntKind.i64.wrap (n + 1) = n + 1) →
    Calls Try.prog f #[.int .i64 n] w fun e w' => e = .returned (.int .i64 (if t1 || t2 then 1 else n + 1)) ∧ w = w') :
    Calls Try.prog f #[.int .i64 n] w fun e w' => e = .returned (.int .i64 (recE n)) ∧ w = w' := by
  have := h _ _ rfl rfl (fun a b => by
    have := of_decide_eq_false a
    have := of_decide_eq_false b
    simp only [IntKind.wrap, IntKind.bits, IntKind.signed]; simp; omega)
  have e : (if (decide (n < 0) || decide (n > 4611686018427387904)) then (1 : Int) else n + 1) = recE n := by
    unfold recE
    by_cases q : n < 0 ∨ 4611686018427387904 < n
    · rw [if_pos q, if_pos (by simpa using q)]
    · rw [if_neg q, if_neg (by simpa using q)]
  rw [e] at this
  exact this
theorem gt_rec (n : Int) (w : World) : Calls Try.prog 94 #[.int .i64 n] w fun e w' => e = .returned (.int .i64 (recE n)) ∧ w = w' := by
  refine rec_run _ n w fun t1 t2 h1 h2 h3 => ?_
  cases t1 with
  | true =>
    go_enter Try.func94, Try.ntmps94
    go_wp2_with fail
    go_ret
    exact ⟨rfl, rfl⟩
  | false =>
    cases t2 with
    | true =>
      go_enter Try.func94, Try.ntmps94
      go_wp2_with fail
      go_ret
      exact ⟨rfl, rfl⟩
    | false =>
      have hw := h3 rfl rfl
      go_enter Try.func94, Try.ntmps94
      go_wp2_with fail
      go_ret
      exact ⟨rfl, rfl⟩
theorem ref_rec (n : Int) (w : World) : Calls Try.prog 65 #[.int .i64 n] w fun e w' => e = .returned (.int .i64 (recE n)) ∧ w = w' := by
  refine rec_run _ n w fun t1 t2 h1 h2 h3 => ?_
  cases t1 with
  | true =>
    go_enter Try.func65, Try.ntmps65
    go_wp2_with fail
    go_ret
    exact ⟨rfl, rfl⟩
  | false =>
    cases t2 with
    | true =>
      go_enter Try.func65, Try.ntmps65
      go_wp2_with fail
      go_ret
      exact ⟨rfl, rfl⟩
    | false =>
      have hw := h3 rfl rfl
      go_enter Try.func65, Try.ntmps65
      go_wp2_with fail
      go_ret
      exact ⟨rfl, rfl⟩
end Go.Proofs.Ytkhnnjeinpojkaa
