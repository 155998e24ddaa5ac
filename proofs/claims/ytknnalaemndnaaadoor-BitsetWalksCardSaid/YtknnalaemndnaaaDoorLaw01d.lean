/- Walk of the law BitsetWalks. -/
import Derived.Test.YtknnalaemndnaaaDoorLaw01c
namespace Go.Proofs.YtknnalaemndnaaaDoor
open Go.RowKit
set_option maxRecDepth 100000 in
set_option maxHeartbeats 1000000 in
theorem bitsetWalks_out (A : Option Addr) (m c : Nat) (w : World) (hT : Tz w) (h : 200 < m) :
    Calls Tryd.prog 5 #[.slice A m c] w fun e w' => e = .returned (.bool true) ∧ Below w.heap.size w w' := by
  have hl := Lib.hid (lives01 w hT)
  have t1 : decide (200 < (m : Int)) = true := by simp; omega
  clear h hT
  go_enter Tryd.func5, Tryd.ntmps5
  go_wp2_with (go_at_call 6; refine hl.out.mono ?_; rintro e w1 ⟨rfl, hb1⟩)
  go_ret
  exact ⟨rfl, hb1⟩
/-- What Next tells where all ahead of a place are passed. -/
theorem next_at (ws : List Int) (j : Nat) (f : Int) (hj : j < (listE ws).length) (h1 : ∀ i, i < j → ig (listE ws) i < f) (h2 : f ≤ ig (listE ws) j) : NextOK (hasB ws) f (ig (listE ws) j) true := by
  obtain ⟨y, hy, hy4, hyb⟩ := lst_bd hj
  have hy' : ig (listE ws) j = y := hy
  rw [hy']
  refine Or.inl ⟨y, rfl, rfl, hy4, hyb, by omega, fun z h3 h4 => ?_⟩
  cases hz : hasB ws z with
  | false => rfl
  | true =>
    exfalso
    obtain ⟨k, hk, hke⟩ := lst_find (m := 4096) (by omega) hz
    have hke' : ig (listE ws) k = z := hke
    rcases Nat.lt_trichotomy k j with g | g | g
    · have := h1 k g; omega
    · subst g; omega
    · have : ig (listE ws) j < ig (listE ws) k := lst_rise _ _ j k g hk
      omega
theorem next_end (ws : List Int) (f : Int) (h1 : ∀ i, i < (listE ws).length → ig (listE ws) i < f) : NextOK (hasB ws) f 0 false := by
  refine Or.inr ⟨rfl, rfl, fun z h3 h4 => ?_⟩
  cases hz : hasB ws z with
  | false => rfl
  | true =>
    exfalso
    obtain ⟨k, hk, hke⟩ := lst_find (m := 4096) h3 hz
    have hke' : ig (listE ws) k = z := hke
    have := h1 k hk
    omega
set_option maxRecDepth 100000 in
set_option maxHeartbeats 4000000 in
theorem bitsetWalks_walk (A : Option Addr) (m c : Nat) (xs : List Int) (w : World) (hT : Tz w) (hx : WArg w A m c xs) (hm : m ≤ 200) :
    Calls Tryd.prog 5 #[.slice A m c] w fun e w' => e = .returned (.bool true) ∧ Below w.heap.size w w' := by
  have t1 : decide (200 < (m : Int)) = false := by simp; omega
  have X := Lib.hid hx
  have HT := Lib.hid hT
  have hll := listE_len xs
  have HBD : Hid (∀ k, k < (listE xs).length → 0 ≤ ig (listE xs) k ∧ ig (listE xs) k < 4096) := fun k hk => listE_bd xs hk
  have HN : Hid (∀ j f, j < (listE xs).length → (∀ i, i < j → ig (listE xs) i < f) → f ≤ ig (listE xs) j → NextOK (hasB xs) f (ig (listE xs) j) true) := next_at xs
  have HE : Hid (∀ f, (∀ i, i < (listE xs).length → ig (listE xs) i < f) → NextOK (hasB xs) f 0 false) := next_end xs
  have HR : Hid (∀ i j, i < j → j < (listE xs).length → ig (listE xs) i < ig (listE xs) j) := fun i j h1 h2 => lst_rise _ _ i j h1 h2
  have HI : Hid (∀ n, n < 4096 → inL (listE xs) n = hasB xs n) := fun n hn => inL_list hn
  have HC : Hid ((listE xs).length = (listE xs).length) := rfl
  have hbd : ∀ z ∈ listE xs, -9223372036854775808 ≤ z ∧ z ≤ 9223372036854775807 := fun z hz => by
    obtain ⟨y, rfl, hy, _⟩ := mem_lst.1 hz
    exact ⟨by omega, by omega⟩
  have HBI := Lib.hid hbd
  have hlist := fun w hr hT => bit_list A m c xs w hr hx.word hx.cap hx.nil_ hT
  have hcnt : ∀ w, WArg w A m c xs → Calls Tryd.prog 17 #[.slice A m c] w fun e w' => e = .returned (.int .i64 (listE xs).length) ∧ w = w' := fun w h => set_count h rfl
  have HLS := Lib.hid hlist
  have HCN := Lib.hid hcnt
  clear HC hlist hcnt hbd
  obtain ⟨l, hl⟩ : ∃ l, listE xs = l := ⟨_, rfl⟩
  rw [hl] at hll HBD HN HE HR HI HBI HLS HCN
  obtain ⟨M, hM⟩ : ∃ M, l.length = M := ⟨_, rfl⟩
  rw [hM] at hll HBD HN HE HR HCN
  have HM := Lib.hid hM
  clear hx hT hl hM
  go_enter Tryd.func5, Tryd.ntmps5
  go_wp2_with fail
  refine (lives01 w HT.out).mono ?_
  rintro e w1 ⟨rfl, B1⟩
  have X1 := Lib.hid (X.out.below B1)
  have T1 := Lib.hid (HT.out.below B1)
  clear X HT
  go_wp2_with fail
  refine (HLS.out w1 X1.out.rd T1.out).mono ?_
  rintro e w2 ⟨⟨A2, c2, rfl, hc2, hrd2⟩, hb2⟩
  rw [HM.out] at hc2 hrd2 ⊢
  have B2 := B1.trans (hb2.mono B1.size)
  have X2 := Lib.hid (X1.out.below hb2)
  have T2 := Lib.hid (T1.out.below hb2)
  have L2 := Lib.hid hrd2
  clear hb2 hrd2 B1 X1 T1
  go_wp2_with fail
  refine (bit_of A2 M c2 _ l HBI.out w2 L2.out (Nat.le_refl _) (by omega)).mono ?_
  intro e w3 hret
  obtain ⟨vs3, A3, n3, c3, rfl, R, can3, hn3, hb3⟩ := hret.open_
  have B3 := B2.trans (hb3.mono B2.size)
  have X3 := Lib.hid (X2.out.below hb3)
  have T3 := Lib.hid (T2.out.below hb3)
  have L3 := Lib.hid ((L2.out.below hb3).more hb3.size)
  have R3 := Lib.hid R
  have C3 := Lib.hid can3
  clear hret hb3 R can3 B2 X2 T2 L2
  go_wp2_with fail
  refine (bit_union A m c xs none 0 0 [] w3 X3.out.rd (warg_nil w3).rd X3.out.word (warg_nil w3).word X3.out.cap (warg_nil w3).cap X3.out.nil_ (warg_nil w3).nil_).mono ?_
  intro e w4 hret
  obtain ⟨vs4, A4, n4, c4, rfl, R, can4, hn4, hb4⟩ := hret.open_
  have B4 := B3.trans (hb4.mono B3.size)
  have X4 := Lib.hid (X3.out.below hb4)
  have T4 := Lib.hid (T3.out.below hb4)
  have L4 := Lib.hid ((L3.out.below hb4).more hb4.size)
  have hsm := set_same (R3.out.below hb4) R (canon_one C3.out (canon_congr can4 fun j hj => by rw [HI.out j hj, show hasB [] j = false from hasB_out (by simp), Bool.or_false])) (by omega)
  have HSM := Lib.hid hsm
  clear hret hb4 R can4 B3 X3 T3 L3 R3 hsm C3
  go_wp2_with fail
  refine HSM.out.mono ?_
  rintro e w5 ⟨rfl, q, hw⟩
  have hb : Below w4.heap.size w4 w5 := by rw [hw]; exact below_drewN (Below.refl _ _) q
  have B5 := B4.trans (hb.mono B4.size)
  have X5 := Lib.hid (X4.out.below hb)
  have T5 := Lib.hid (T4.out.below hb)
  have L5 := Lib.hid ((L4.out.below hb).more hb.size)
  clear hw hb B4 X4 T4 L4 HSM
  go_wp2_with fail
  refine (HCN.out w5 X5.out).mono ?_
  rintro e w' ⟨rfl, rfl⟩
  go_wp2_with fail
  go_loop [4, 33] (fun x i => ∃ (j : Nat) (f : Int), j ≤ M ∧ -1099511627776 ≤ f ∧ f ≤ 4096 ∧ x = .int .i64 f ∧ i = .int .i64 j ∧ Hid ((∀ i, i < j → ig l i < f) ∧ (j < M → f ≤ ig l j))) (fun _ i => M - (intOf i).toNat)
  case atStart => exact ⟨0, -1099511627776, Nat.zero_le _, Int.le_refl _, by decide, rfl, rfl, fun i hi => by omega, fun h => by have := HBD.out 0 h; omega⟩
  case round =>
    obtain ⟨j, f, hj, hf0, hf1, rfl, rfl, hv⟩ := hrel
    by_cases hlt : j < M
    · obtain ⟨b, o, rfl, _, hc⟩ := L5.out.atI hlt
      have hok := HN.out j f hlt hv.out.1 (hv.out.2 hlt)
      have hfz := hv.out.2 hlt
      obtain ⟨z1, z2⟩ := HBD.out j hlt
      have HV : Hid ((∀ i, i < j + 1 → ig l i < ig l j + 1) ∧ (j + 1 < M → ig l j + 1 ≤ ig l (j + 1))) := ⟨fun i hi => by
        rcases Nat.lt_or_ge i j with g | g
        · have := HR.out i j g hlt; omega
        · obtain rfl : i = j := by omega
          omega, fun h => by have := HR.out j (j + 1) (by omega) h; omega⟩
      obtain ⟨z, hz⟩ : ∃ z, ig l j = z := ⟨_, rfl⟩
      rw [hz] at hc hok hfz z1 z2 HV
      have OK := Lib.hid hok
      clear hz hok
      go_wp2_with fail
      refine (set_next X5.out T5.out f (by omega) OK.out).mono ?_
      rintro e w' ⟨rfl, rfl⟩
      go_wp2_with fail
      go_round
      case rel => exact ⟨j + 1, z + 1, by omega, by omega, by omega, by first | rfl | go_num, by go_num, HV⟩
      case measure => simp [intOf]; omega
    · obtain rfl : j = M := by omega
      have OK := Lib.hid (HE.out f hv.out.1)
      go_wp2_with fail
      refine (set_next X5.out T5.out f (by omega) OK.out).mono ?_
      rintro e w' ⟨rfl, rfl⟩
      go_wp2_with fail
      go_ret
      exact ⟨rfl, B5⟩
theorem bitsetWalks_any (A : Option Addr) (m c : Nat) (xs : List Int) (w : World) (hT : Tz w) (hx : WArg w A m c xs) :
    Calls Tryd.prog 5 #[.slice A m c] w fun e w' => e = .returned (.bool true) ∧ Below w.heap.size w w' := by
  by_cases h : 200 < m
  · exact bitsetWalks_out A m c w hT h
  · exact bitsetWalks_walk A m c xs w hT hx (by omega)
end Go.Proofs.YtknnalaemndnaaaDoor
