/- Slices of ints: Index, Contains, Has; functions handed in: IndexFunc, ContainsFunc. -/
import Derived.Test.YtbpcddimnbjoeaaPlB
namespace Go.Proofs.Ytbpcddimnbjoeaa
open Go.RowKit
/-- Where a number is first. -/
def hasI (xs : List Int) (v : Int) : Bool := xs.any fun x => x == v
theorem hasI_iff {xs : List Int} {v : Int} : hasI xs v = true ↔ v ∈ xs := by
  unfold hasI
  rw [List.any_eq_true]
  constructor
  · rintro ⟨x, hx, e⟩; rw [beq_iff_eq] at e; subst e; exact hx
  · intro h; exact ⟨v, h, by simp⟩
/-- The first one of some, or none. -/
def FirstAt (q : Nat → Bool) (n : Nat) (r : Int) : Prop := (r = -1 ∧ ∀ k, k < n → q k = false) ∨ ∃ i : Nat, i < n ∧ r = i ∧ q i = true ∧ ∀ k, k < i → q k = false
def IdxR (q : Nat → Bool) (n : Nat) (K : Nat → World → Prop) (e : Ending) (w' : World) : Prop := ∃ r : Int, e = .returned (.int .i64 r) ∧ ((r = -1 ∧ (∀ k, k < n → q k = false) ∧ K n w') ∨ ∃ i : Nat, i < n ∧ r = i ∧ q i = true ∧ (∀ k, k < i → q k = false) ∧ K (i + 1) w')
set_option maxRecDepth 100000 in
set_option maxHeartbeats 1000000 in
/-- IndexFunc, over whatever function: it is called of one after the other. -/
theorem idx_func (A : Option Addr) (n c : Nat) (xs : List Int) (f : FuncId) (caps : Array Value) (q : Nat → Bool) (K : Nat → World → Prop) (w : World) (hn : n ≤ 2097152)
    (hcf : ∀ args w, (callFunc f args).run Try.prog w = .ok (.enter f args) w)
    (hrd : ∀ i W, K i W → Rd W W.heap.size A n (xs.map (.int .i64)))
    (hcall : ∀ i W, i < n → K i W → Calls Try.prog f (#[.int .i64 (ig xs i)] ++ caps) W fun e w' => e = .returned (.bool (q i)) ∧ K (i + 1) w')
    (h0 : K 0 w) :
    Calls Try.prog 76 #[.slice A n c, .func (.func f) #[] caps] w (IdxR q n K) := by
  have HR := Lib.hid hrd
  have HC := Lib.hid hcall
  have H0 := Lib.hid h0
  clear hrd hcall h0
  go_enter Try.func76, Try.ntmps76
  go_wp2_with fail
  go_loopw [8] (fun s8 wr => ∃ j : Nat, j ≤ n ∧ s8 = .int .i64 j ∧ Hid (∀ k, k < j → q k = false) ∧ Hid (K j wr)) (fun s8 _ => n - (intOf s8).toNat)
  case atStart => exact ⟨0, Nat.zero_le _, rfl, Lib.hid (fun k hk => absurd hk (by omega)), H0⟩
  case round =>
    obtain ⟨j, hj, rfl, hq, hk⟩ := hrel
    by_cases hlt : j < n
    · obtain ⟨b, o, rfl, hb, hc⟩ := (HR.out j wr hk.out).atI hlt
      have HCJ := Lib.hid (HC.out j wr hlt hk.out)
      obtain ⟨x, hx⟩ : ∃ x, ig xs j = x := ⟨_, rfl⟩
      rw [hx] at hc HCJ
      clear hx
      cases hqj : q j with
      | true =>
        rw [hqj] at HCJ
        have HQ := Lib.hid hqj
        clear hqj
        go_wp2_with fail
        refine HCJ.out.mono ?_
        rintro e w' ⟨rfl, hk'⟩
        have HK := Lib.hid hk'
        clear hk'
        go_wp2_with fail
        go_ret
        exact ⟨_, rfl, .inr ⟨j, hlt, rfl, HQ.out, hq.out, HK.out⟩⟩
      | false =>
        rw [hqj] at HCJ
        have HQ : Hid (∀ k, k < j + 1 → q k = false) := by
          intro k hk
          by_cases e : k = j
          · rw [e]; exact hqj
          · exact hq.out k (by omega)
        clear hqj
        go_wp2_with fail
        refine HCJ.out.mono ?_
        rintro e w' ⟨rfl, hk'⟩
        have HK := Lib.hid hk'
        clear hk'
        go_wp2_with fail
        go_roundw
        case rel => exact ⟨j + 1, by omega, by go_num, HQ, HK⟩
        case measure => simp [intOf]; omega
    · obtain rfl : j = n := by omega
      go_wp2_with fail
      go_ret
      exact ⟨_, rfl, .inl ⟨rfl, hq.out, hk.out⟩⟩
def CntR (q : Nat → Bool) (n : Nat) (K : Nat → World → Prop) (e : Ending) (w' : World) : Prop := ((∀ k, k < n → q k = false) ∧ e = .returned (.bool false) ∧ K n w') ∨ ∃ i : Nat, i < n ∧ q i = true ∧ (∀ k, k < i → q k = false) ∧ e = .returned (.bool true) ∧ K (i + 1) w'
set_option maxRecDepth 100000 in
set_option maxHeartbeats 1000000 in
theorem cnt_func (A : Option Addr) (n c : Nat) (xs : List Int) (f : FuncId) (caps : Array Value) (q : Nat → Bool) (K : Nat → World → Prop) (w : World) (hn : n ≤ 2097152)
    (hcf : ∀ args w, (callFunc f args).run Try.prog w = .ok (.enter f args) w)
    (hrd : ∀ i W, K i W → Rd W W.heap.size A n (xs.map (.int .i64)))
    (hcall : ∀ i W, i < n → K i W → Calls Try.prog f (#[.int .i64 (ig xs i)] ++ caps) W fun e w' => e = .returned (.bool (q i)) ∧ K (i + 1) w')
    (h0 : K 0 w) :
    Calls Try.prog 65 #[.slice A n c, .func (.func f) #[] caps] w (CntR q n K) := by
  have HI := Lib.hid (idx_func A n c xs f caps q K w hn hcf hrd hcall h0)
  clear hrd hcall h0 hcf
  go_enter Try.func65, Try.ntmps65
  go_wp2_with fail
  refine HI.out.mono ?_
  rintro e w' ⟨r, rfl, ⟨rfl, hq, hk⟩ | ⟨i, hi, rfl, hqi, hq, hk⟩⟩
  · have HQ := Lib.hid hq
    have HK := Lib.hid hk
    clear hq hk
    go_wp2_with fail
    go_ret
    exact .inl ⟨HQ.out, rfl, HK.out⟩
  · have HQ := Lib.hid hq
    have HK := Lib.hid hk
    have HQI := Lib.hid hqi
    clear hq hk hqi
    go_wp2_with fail
    go_ret
    exact .inr ⟨i, hi, HQI.out, HQ.out, rfl, HK.out⟩
set_option maxRecDepth 100000 in
set_option maxHeartbeats 1000000 in
theorem sl_index (A : Option Addr) (n c : Nat) (xs : List Int) (v : Int) (w : World) (hr : Rd w w.heap.size A n (xs.map (.int .i64))) (hn : n ≤ 2097152) :
    Calls Try.prog 80 #[.slice A n c, .int .i64 v] w fun e w' => (∃ r : Int, e = .returned (.int .i64 r) ∧ FirstAt (fun k => ig xs k == v) n r) ∧ w = w' := by
  have HR := Lib.hid hr
  clear hr
  go_enter Try.func80, Try.ntmps80
  go_wp2_with fail
  go_loop [8] (fun s8 => ∃ j : Nat, j ≤ n ∧ s8 = .int .i64 j ∧ Hid (∀ k, k < j → (ig xs k == v) = false)) (fun s8 => n - (intOf s8).toNat)
  case atStart => exact ⟨0, Nat.zero_le _, rfl, Lib.hid (fun k hk => absurd hk (by omega))⟩
  case round =>
    obtain ⟨j, hj, rfl, hq⟩ := hrel
    by_cases hlt : j < n
    · obtain ⟨b, o, rfl, hb, hc⟩ := HR.out.atI hlt
      obtain ⟨x, hx⟩ : ∃ x, ig xs j = x := ⟨_, rfl⟩
      rw [hx] at hc
      cases hqj : (v == x) with
      | true =>
        have HQ : Hid ((ig xs j == v) = true) := by show _ = _; rw [hx, beq_iff_eq]; rw [beq_iff_eq] at hqj; exact hqj.symm
        clear hx
        go_wp2_with fail
        go_ret
        exact ⟨⟨_, rfl, .inr ⟨j, hlt, rfl, HQ.out, hq.out⟩⟩, rfl⟩
      | false =>
        have HQ : Hid (∀ k, k < j + 1 → (ig xs k == v) = false) := by
          intro k hk
          by_cases e : k = j
          · rw [e, hx, beq_eq_false_iff_ne]; rw [beq_eq_false_iff_ne] at hqj; exact fun e => hqj e.symm
          · exact hq.out k (by omega)
        clear hx
        go_wp2_with fail
        go_round
        case rel => exact ⟨j + 1, by omega, by go_num, HQ⟩
        case measure => simp [intOf]; omega
    · obtain rfl : j = n := by omega
      go_wp2_with fail
      go_ret
      exact ⟨⟨_, rfl, .inl ⟨rfl, hq.out⟩⟩, rfl⟩
theorem first_has {xs : List Int} {n : Nat} {v r : Int} (hl : xs.length = n) (h : FirstAt (fun k => ig xs k == v) n r) : decide (r ≥ 0) = hasI xs v := by
  rcases h with ⟨rfl, h⟩ | ⟨i, hi, rfl, h, _⟩
  · symm
    cases e : hasI xs v with
    | false => rfl
    | true =>
      rw [hasI_iff] at e
      obtain ⟨i, hi, e⟩ := List.mem_iff_getElem.1 e
      have := h i (by omega)
      simp only [ig, List.getD_eq_getElem?_getD, List.getElem?_eq_getElem hi, Option.getD_some, beq_eq_false_iff_ne] at this
      exact absurd e this
  · have e : hasI xs v = true := by
      rw [hasI_iff]
      have hi' : i < xs.length := by omega
      simp only [ig, List.getD_eq_getElem?_getD, List.getElem?_eq_getElem hi', Option.getD_some, beq_iff_eq] at h
      rw [← h]
      exact List.getElem_mem hi'
    rw [e]
    simp
set_option maxRecDepth 100000 in
theorem sl_contains (A : Option Addr) (n c : Nat) (xs : List Int) (v : Int) (w : World) (hr : Rd w w.heap.size A n (xs.map (.int .i64))) (hn : n ≤ 2097152) :
    Calls Try.prog 77 #[.slice A n c, .int .i64 v] w fun e w' => e = .returned (.bool (hasI xs v)) ∧ w = w' := by
  have HI := Lib.hid (sl_index A n c xs v w hr hn)
  have HL := Lib.hid hr.lenI
  clear hr
  go_enter Try.func77, Try.ntmps77
  go_wp2_with fail
  refine HI.out.mono ?_
  rintro e w' ⟨⟨r, rfl, hf⟩, rfl⟩
  have hb := first_has HL.out hf
  cases hq : hasI xs v with
  | true =>
    rw [hq] at hb
    have HQ := Lib.hid hq
    clear hf hq
    go_wp2_with fail
    go_ret
    exact ⟨by rw [HQ.out]; rfl, rfl⟩
  | false =>
    rw [hq] at hb
    have HQ := Lib.hid hq
    clear hf hq
    go_wp2_with fail
    go_ret
    exact ⟨by rw [HQ.out]; rfl, rfl⟩
set_option maxRecDepth 100000 in
theorem eg_has (A : Option Addr) (n c : Nat) (xs : List Int) (v : Int) (w : World) (hr : Rd w w.heap.size A n (xs.map (.int .i64))) (hn : n ≤ 2097152) :
    Calls Try.prog 67 #[.slice A n c, .int .i64 v] w fun e w' => e = .returned (.bool (hasI xs v)) ∧ w = w' := by
  have HI := Lib.hid (sl_contains A n c xs v w hr hn)
  clear hr
  go_enter Try.func67, Try.ntmps67
  go_wp2_with fail
  refine HI.out.mono ?_
  rintro e w' ⟨rfl, rfl⟩
  go_wp2_with fail
  go_ret
  exact ⟨rfl, rfl⟩
set_option maxRecDepth 100000 in
set_option maxHeartbeats 1000000 in
theorem rf_has (A : Option Addr) (n c : Nat) (xs : List Int) (v : Int) (w : World) (hr : Rd w w.heap.size A n (xs.map (.int .i64))) (hn : n ≤ 2097152) :
    Calls Try.prog 75 #[.slice A n c, .int .i64 v] w fun e w' => e = .returned (.bool (hasI xs v)) ∧ w = w' := by
  have HR := Lib.hid hr
  clear hr
  go_enter Try.func75, Try.ntmps75
  go_wp2_with fail
  go_loop [9] (fun s8 => ∃ j : Nat, j ≤ n ∧ s8 = .int .i64 j ∧ Hid (∀ k, k < j → (ig xs k == v) = false)) (fun s8 => n - (intOf s8).toNat)
  case atStart => exact ⟨0, Nat.zero_le _, rfl, Lib.hid (fun k hk => absurd hk (by omega))⟩
  case round =>
    obtain ⟨j, hj, rfl, hq⟩ := hrel
    by_cases hlt : j < n
    · obtain ⟨b, o, rfl, hb, hc⟩ := HR.out.atI hlt
      obtain ⟨x, hx⟩ : ∃ x, ig xs j = x := ⟨_, rfl⟩
      rw [hx] at hc
      cases hqj : (x == v) with
      | true =>
        have HQ : Hid (hasI xs v = true) := by
          have hf : FirstAt (fun k => ig xs k == v) n j := .inr ⟨j, hlt, rfl, by show (ig xs j == v) = true; rw [hx]; exact hqj, hq.out⟩
          exact (first_has HR.out.lenI hf).symm.trans (by simp)
        clear hx
        go_wp2_with fail
        go_ret
        exact ⟨by rw [HQ.out]; rfl, rfl⟩
      | false =>
        have HQ : Hid (∀ k, k < j + 1 → (ig xs k == v) = false) := by
          intro k hk
          by_cases e : k = j
          · rw [e, hx]; exact hqj
          · exact hq.out k (by omega)
        clear hx
        go_wp2_with fail
        go_round
        case rel => exact ⟨j + 1, by omega, by go_num, HQ⟩
        case measure => simp [intOf]; omega
    · obtain rfl : j = n := by omega
      have HQ : Hid (hasI xs v = false) := by
        have hf : FirstAt (fun k => ig xs k == v) j (-1) := .inl ⟨rfl, hq.out⟩
        exact (first_has HR.out.lenI hf).symm.trans (by simp)
      go_wp2_with fail
      go_ret
      exact ⟨by rw [HQ.out]; rfl, rfl⟩
end Go.Proofs.Ytbpcddimnbjoeaa
