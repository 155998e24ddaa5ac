/- Walk of the law BitsetTells. -/
import Derived.Test.YtknnalaemndnaaaDoorLaw01
namespace Go.Proofs.YtknnalaemndnaaaDoor
open Go.RowKit
theorem set_rnext {A : Option Addr} {m c : Nat} {ws : List Int} {w : World} (h : WArg w A m c ws) (hm : m ≤ 9223372036854775807) (n : Int) {x : Int} {is : Bool} (hx : NextOK (hasB ws) n x is) :
    Calls Tryd.prog 8 #[.slice A m c, .int .i64 n] w fun e w' => e = .returned (.tuple #[.int .i64 x, .bool is]) ∧ Below w.heap.size w w' :=
  (ref_next A m c ws n w h.rd h.word hm).mono fun e w' ⟨y, is', he, hok, hw⟩ => by
    obtain ⟨rfl, rfl⟩ := next_one hok hx
    exact ⟨he, hw⟩
theorem next_ex (p : Nat → Bool) (n : Int) : ∃ x is, NextOK p n x is := by
  by_cases h : ∃ y : Nat, y < 4096 ∧ p y = true ∧ n ≤ y
  · have hd : ∀ k, (∃ y : Nat, y < k ∧ y < 4096 ∧ p y = true ∧ n ≤ y) → ∃ y : Nat, y < 4096 ∧ p y = true ∧ n ≤ y ∧ ∀ z : Nat, z < y → n ≤ z → p z = false := by
      intro k
      induction k with
      | zero => rintro ⟨y, hy, _⟩; omega
      | succ k ih =>
        intro hk
        by_cases hk2 : ∃ y : Nat, y < k ∧ y < 4096 ∧ p y = true ∧ n ≤ y
        · exact ih hk2
        · obtain ⟨y, h1, h2, h3, h4⟩ := hk
          refine ⟨y, h2, h3, h4, fun z hz hn => ?_⟩
          cases hp : p z with
          | false => rfl
          | true => exact absurd ⟨z, by omega, by omega, hp, hn⟩ hk2
    obtain ⟨y, h1, h2, h3⟩ := h
    obtain ⟨z, z1, z2, z3, z4⟩ := hd (y + 1) ⟨y, by omega, h1, h2, h3⟩
    exact ⟨z, true, Or.inl ⟨z, rfl, rfl, z1, z2, z3, z4⟩⟩
  · refine ⟨0, false, Or.inr ⟨rfl, rfl, fun z h1 h2 => ?_⟩⟩
    cases hp : p z with
    | false => rfl
    | true => exact absurd ⟨z, h1, hp, h2⟩ h
theorem set_rhas {A : Option Addr} {m c : Nat} {ws : List Int} {w : World} (h : WArg w A m c ws) (hm : m ≤ 9223372036854775807) (n : Int) (hn : n ≤ 9223372036854775807) {b : Bool} (hb : hasE ws n = b) :
    Calls Tryd.prog 10 #[.slice A m c, .int .i64 n] w fun e w' => e = .returned (.bool b) ∧ w = w' := by
  rw [← hb]; exact ref_has A m c ws _ n hn hm w h.rd h.word
/-- Two lists that the calls have made, one and the same. -/
theorem ints_same {A B : Option Addr} {n c c' : Nat} {xs : List Int} {w : World} (h : Rd w w.heap.size A n (xs.map (.int .i64))) (h' : Rd w w.heap.size B n (xs.map (.int .i64))) (hn : n ≤ 4611686018427387904) :
    Calls Tryd.prog 14 #[.slice A n c, .slice B n c'] w fun e w' => e = .returned (.bool true) ∧ ∃ q, w' = w.drewN q := by
  have := same_ints A B n n c c' _ xs xs w h h' hn hn
  rw [show sameB xs xs = true by unfold sameB; simp] at this
  exact this
set_option maxRecDepth 100000 in
set_option maxHeartbeats 1000000 in
theorem bitsetTells_out (A : Option Addr) (m c : Nat) (B : Option Addr) (m' c' : Nat) (D : Option Addr) (k d : Nat) (w : World) (hT : Tz w) (h : 80 < m ∨ 80 < m' ∨ 200 < k) :
    Calls Tryd.prog 3 #[.slice A m c, .slice B m' c', .slice D k d] w fun e w' => e = .returned (.bool true) ∧ Below w.heap.size w w' := by
  have hl := Lib.hid (lives01 w hT)
  have T : Hid (decide (80 < (m : Int)) = true ∨ (decide (80 < (m : Int)) = false ∧ decide (80 < (m' : Int)) = true) ∨ (decide (80 < (m : Int)) = false ∧ decide (80 < (m' : Int)) = false ∧ decide (200 < (k : Int)) = true)) := by
    show _ ∨ _
    simp; omega
  clear h hT
  rcases T.out with t1 | ⟨t1, t2⟩ | ⟨t1, t2, t3⟩
  all_goals
    go_enter Tryd.func3, Tryd.ntmps3
    go_wp2_with (go_at_call 6; refine hl.out.mono ?_; rintro e w1 ⟨rfl, hb1⟩)
    go_ret
    exact ⟨rfl, hb1⟩
set_option maxRecDepth 100000 in
set_option maxHeartbeats 4000000 in
theorem bitsetTells_walk (A : Option Addr) (m c : Nat) (xs : List Int) (B : Option Addr) (m' c' : Nat) (ys : List Int) (D : Option Addr) (k d : Nat) (l : List Int) (hb : ∀ z ∈ l, -9223372036854775808 ≤ z ∧ z ≤ 9223372036854775807) (w : World) (hT : Tz w)
    (hx : WArg w A m c xs) (hy : WArg w B m' c' ys) (hl : Rd w w.heap.size D k (l.map (.int .i64))) (hm : m ≤ 80) (hm' : m' ≤ 80) (hk : k ≤ 200) :
    Calls Tryd.prog 3 #[.slice A m c, .slice B m' c', .slice D k d] w fun e w' => e = .returned (.bool true) ∧ Below w.heap.size w w' := by
  have t1 : decide (80 < (m : Int)) = false := by simp; omega
  have t2 : decide (80 < (m' : Int)) = false := by simp; omega
  have t3 : decide (200 < (k : Int)) = false := by simp; omega
  have X := Lib.hid hx
  have Y := Lib.hid hy
  have L := Lib.hid hl
  have HT := Lib.hid hT
  have HBD : Hid (∀ j, j < k → -9223372036854775808 ≤ ig l j ∧ ig l j ≤ 9223372036854775807) := fun j hj => hb _ (by
    have : l.length = k := hl.lenI
    rw [ig, List.getD_eq_getElem?_getD, List.getElem?_eq_getElem (by omega)]; simp)
  clear hx hy hl hT
  go_enter Tryd.func3, Tryd.ntmps3
  go_wp2_with fail
  go_loopw [29] (fun i wr => ∃ j : Nat, j ≤ k ∧ i = .int .i64 j ∧ Hid (Below w.heap.size w wr)) (fun i _ => k - (intOf i).toNat)
  case atStart => exact ⟨0, Nat.zero_le _, rfl, Below.refl _ _⟩
  case round =>
    obtain ⟨j, hj, rfl, hB⟩ := hrel
    by_cases hlt : j < k
    · have hrl := (L.out.below hB.out).more hB.out.size
      obtain ⟨b, o, rfl, _, hc⟩ := hrl.atI hlt
      obtain ⟨z1, z2⟩ := HBD.out j hlt
      obtain ⟨z, hz⟩ : ∃ z, ig l j = z := ⟨_, rfl⟩
      rw [hz] at hc z1 z2
      obtain ⟨x, is, hok⟩ := next_ex (hasB xs) z
      obtain ⟨hs, hhs⟩ : ∃ b, hasE xs z = b := ⟨_, rfl⟩
      have X1 := Lib.hid (X.out.below hB.out)
      have T1 := Lib.hid (HT.out.below hB.out)
      have OK := Lib.hid hok
      have HS := Lib.hid hhs
      clear hz hrl hok hhs
      go_wp2_with fail
      refine (set_next X1.out T1.out z z2 OK.out).mono ?_
      rintro e w' ⟨rfl, rfl⟩
      go_wp2_with fail
      refine (set_rnext X1.out (by omega) z OK.out).mono ?_
      rintro e w2 ⟨rfl, hb2⟩
      have B2 := Lib.hid (hB.out.trans (hb2.mono hB.out.size))
      have X2 := Lib.hid (X1.out.below hb2)
      clear hb2 X1 T1
      go_wp2_with fail
      refine (set_has X2.out z z2 HS.out).mono ?_
      rintro e w' ⟨rfl, rfl⟩
      go_wp2_with fail
      refine (set_rhas X2.out (by omega) z z2 HS.out).mono ?_
      rintro e w' ⟨rfl, rfl⟩
      go_wp2_with fail
      go_roundw
      case rel => exact ⟨j + 1, by omega, by go_num, B2⟩
      case measure => simp [intOf]; omega
    · obtain rfl : j = k := by omega
      obtain ⟨wo, rfl⟩ : ∃ wo : World, wo = wr := ⟨_, rfl⟩
      have X0 := Lib.hid (X.out.below hB.out)
      have Y0 := Lib.hid (Y.out.below hB.out)
      have T0 := Lib.hid (HT.out.below hB.out)
      have L0 := Lib.hid ((L.out.below hB.out).more hB.out.size)
      have B0 := hB.out
      clear hB X Y L HT
      go_wp2_with fail
      refine (lives01 wo T0.out).mono ?_
      rintro e w1 ⟨rfl, hb1⟩
      have B1 := B0.trans (hb1.mono B0.size)
      have X1 := Lib.hid (X0.out.below hb1)
      have Y1 := Lib.hid (Y0.out.below hb1)
      have T1 := Lib.hid (T0.out.below hb1)
      have L1 := Lib.hid ((L0.out.below hb1).more hb1.size)
      clear hb1 B0 X0 Y0 T0 L0
      go_wp2_with fail
      refine (bit_of D j d _ l hb w1 L1.out (Nat.le_refl _) (by omega)).mono ?_
      intro e w2 hret
      obtain ⟨vs, A2, n2, c2, rfl, R, hcan, hn2, hb2⟩ := hret.open_
      have B2 := B1.trans (hb2.mono B1.size)
      have X2 := Lib.hid (X1.out.below hb2)
      have Y2 := Lib.hid (Y1.out.below hb2)
      have T2 := Lib.hid (T1.out.below hb2)
      have L2 := Lib.hid ((L1.out.below hb2).more hb2.size)
      have R2 := Lib.hid R
      clear hret hb2 R B1 X1 Y1 T1 L1
      go_wp2_with fail
      refine (ref_of D j d l w2 L2.out (by omega)).mono ?_
      intro e w3 hret
      obtain ⟨vs', A3, n3, c3, rfl, R, hcan', hn3, hb3⟩ := hret.open_
      have B3 := B2.trans (hb3.mono B2.size)
      have X3 := Lib.hid (X2.out.below hb3)
      have Y3 := Lib.hid (Y2.out.below hb3)
      have T3 := Lib.hid (T2.out.below hb3)
      have hsm := set_same (R2.out.below hb3) R (canon_one hcan hcan') (by omega)
      have HSM := Lib.hid hsm
      clear hret hb3 R B2 X2 Y2 T2 L2 R2 hcan hcan' hsm
      go_wp2_with fail
      refine HSM.out.mono ?_
      rintro e w4 ⟨rfl, q4, hw4⟩
      have b4 : Below w3.heap.size w3 w4 := by rw [hw4]; exact below_drewN (Below.refl _ _) q4
      have B4 := B3.trans (b4.mono B3.size)
      have X4 := Lib.hid (X3.out.below b4)
      have Y4 := Lib.hid (Y3.out.below b4)
      have T4 := Lib.hid (T3.out.below b4)
      clear hw4 b4 B3 X3 Y3 T3 HSM
      go_wp2_with fail
      refine (bit_list A m c xs w4 X4.out.rd X4.out.word X4.out.cap X4.out.nil_ T4.out).mono ?_
      rintro e w5 ⟨⟨A5, c5, rfl, hc5, hrd5⟩, hb5⟩
      have B5 := B4.trans (hb5.mono B4.size)
      have X5 := Lib.hid (X4.out.below hb5)
      have Y5 := Lib.hid (Y4.out.below hb5)
      have R5 := Lib.hid hrd5
      have hle := listE_len xs
      clear hb5 hrd5 B4 X4 Y4 T4
      go_wp2_with fail
      refine (ref_list A m c xs w5 X5.out.rd X5.out.word (by omega)).mono ?_
      intro e w6 hret
      obtain ⟨⟨A6, c6, rfl, hc6, hrd6⟩, hb6⟩ := hret.rd
      have B6 := B5.trans (hb6.mono B5.size)
      have X6 := Lib.hid (X5.out.below hb6)
      have Y6 := Lib.hid (Y5.out.below hb6)
      have hsm := ints_same (c := c5) (c' := c6) ((R5.out.below hb6).more hb6.size) hrd6 (by omega)
      have HSM := Lib.hid hsm
      clear hret hb6 hrd6 B5 X5 Y5 R5 hsm hc5 hc6
      go_wp2_with fail
      refine HSM.out.mono ?_
      rintro e w7 ⟨rfl, q7, hw7⟩
      have b7 : Below w6.heap.size w6 w7 := by rw [hw7]; exact below_drewN (Below.refl _ _) q7
      have B7 := B6.trans (b7.mono B6.size)
      have X7 := Lib.hid (X6.out.below b7)
      have Y7 := Lib.hid (Y6.out.below b7)
      clear hw7 b7 B6 X6 Y6 HSM
      go_wp2_with fail
      refine (set_count X7.out rfl).mono ?_
      rintro e w' ⟨rfl, rfl⟩
      go_wp2_with fail
      refine (ref_list A m c xs w7 X7.out.rd X7.out.word (by omega)).mono ?_
      intro e w8 hret
      obtain ⟨⟨A8, c8, rfl, hc8, hrd8⟩, hb8⟩ := hret.rd
      have B8 := B7.trans (hb8.mono B7.size)
      have X8 := Lib.hid (X7.out.below hb8)
      have Y8 := Lib.hid (Y7.out.below hb8)
      clear hret hb8 hrd8 B7 X7 Y7 hc8
      go_wp2_with fail
      refine (bit_union A m c xs B m' c' ys w8 X8.out.rd Y8.out.rd X8.out.word Y8.out.word X8.out.cap Y8.out.cap X8.out.nil_ Y8.out.nil_).mono ?_
      intro e w9 hret
      obtain ⟨vs9, A9, n9, c9, rfl, R, hcan, hn9, hb9⟩ := hret.open_
      have B9 := B8.trans (hb9.mono B8.size)
      have X9 := Lib.hid (X8.out.below hb9)
      have Y9 := Lib.hid (Y8.out.below hb9)
      have R9 := Lib.hid R
      clear hret hb9 R B8 X8 Y8
      go_wp2_with fail
      refine (ref_union A m c xs B m' c' ys w9 X9.out.rd Y9.out.rd X9.out.word Y9.out.word (by omega) (by omega)).mono ?_
      intro e w10 hret
      obtain ⟨vs10, A10, n10, c10, rfl, R, hcan', hn10, hb10⟩ := hret.open_
      have B10 := B9.trans (hb10.mono B9.size)
      have X10 := Lib.hid (X9.out.below hb10)
      have Y10 := Lib.hid (Y9.out.below hb10)
      have hsm := set_same (R9.out.below hb10) R (canon_one hcan hcan') (by omega)
      have HSM := Lib.hid hsm
      clear hret hb10 R B9 X9 Y9 R9 hcan hcan' hsm
      go_wp2_with fail
      refine HSM.out.mono ?_
      rintro e w11 ⟨rfl, q11, hw11⟩
      have b11 : Below w10.heap.size w10 w11 := by rw [hw11]; exact below_drewN (Below.refl _ _) q11
      have B11 := B10.trans (b11.mono B10.size)
      have X11 := Lib.hid (X10.out.below b11)
      have Y11 := Lib.hid (Y10.out.below b11)
      clear hw11 b11 B10 X10 Y10 HSM
      go_wp2_with fail
      refine (bit_meet A m c xs B m' c' ys w11 X11.out.rd Y11.out.rd X11.out.word Y11.out.word X11.out.cap Y11.out.cap X11.out.nil_ Y11.out.nil_).mono ?_
      intro e w12 hret
      obtain ⟨vs12, A12, n12, c12, rfl, R, hcan, hn12, hb12⟩ := hret.open_
      have B12 := B11.trans (hb12.mono B11.size)
      have X12 := Lib.hid (X11.out.below hb12)
      have Y12 := Lib.hid (Y11.out.below hb12)
      have R12 := Lib.hid R
      clear hret hb12 R B11 X11 Y11
      go_wp2_with fail
      refine (ref_meet A m c xs B m' c' ys w12 X12.out.rd Y12.out.rd X12.out.word Y12.out.word (by omega) (by omega)).mono ?_
      intro e w13 hret
      obtain ⟨vs13, A13, n13, c13, rfl, R, hcan', hn13, hb13⟩ := hret.open_
      have B13 := B12.trans (hb13.mono B12.size)
      have X13 := Lib.hid (X12.out.below hb13)
      have Y13 := Lib.hid (Y12.out.below hb13)
      have hsm := set_same (R12.out.below hb13) R (canon_one hcan hcan') (by omega)
      have HSM := Lib.hid hsm
      clear hret hb13 R B12 X12 Y12 R12 hcan hcan' hsm
      go_wp2_with fail
      refine HSM.out.mono ?_
      rintro e w14 ⟨rfl, q14, hw14⟩
      have b14 : Below w13.heap.size w13 w14 := by rw [hw14]; exact below_drewN (Below.refl _ _) q14
      have B14 := B13.trans (b14.mono B13.size)
      have X14 := Lib.hid (X13.out.below b14)
      have Y14 := Lib.hid (Y13.out.below b14)
      clear hw14 b14 B13 X13 Y13 HSM
      go_wp2_with fail
      refine (bit_less A m c xs B m' c' ys w14 X14.out.rd Y14.out.rd X14.out.word Y14.out.word X14.out.cap Y14.out.cap X14.out.nil_ Y14.out.nil_).mono ?_
      intro e w15 hret
      obtain ⟨vs15, A15, n15, c15, rfl, R, hcan, hn15, hb15⟩ := hret.open_
      have B15 := B14.trans (hb15.mono B14.size)
      have X15 := Lib.hid (X14.out.below hb15)
      have Y15 := Lib.hid (Y14.out.below hb15)
      have R15 := Lib.hid R
      clear hret hb15 R B14 X14 Y14
      go_wp2_with fail
      refine (ref_less A m c xs B m' c' ys w15 X15.out.rd Y15.out.rd X15.out.word Y15.out.word (by omega) (by omega)).mono ?_
      intro e w16 hret
      obtain ⟨vs16, A16, n16, c16, rfl, R, hcan', hn16, hb16⟩ := hret.open_
      have B16 := B15.trans (hb16.mono B15.size)
      have X16 := Lib.hid (X15.out.below hb16)
      have Y16 := Lib.hid (Y15.out.below hb16)
      have hsm := set_same (R15.out.below hb16) R (canon_one hcan hcan') (by omega)
      have HSM := Lib.hid hsm
      clear hret hb16 R B15 X15 Y15 R15 hcan hcan' hsm
      go_wp2_with fail
      refine HSM.out.mono ?_
      rintro e w17 ⟨rfl, q17, hw17⟩
      have b17 : Below w16.heap.size w16 w17 := by rw [hw17]; exact below_drewN (Below.refl _ _) q17
      have B17 := B16.trans (b17.mono B16.size)
      have X17 := Lib.hid (X16.out.below b17)
      have Y17 := Lib.hid (Y16.out.below b17)
      clear hw17 b17 B16 X16 Y16 HSM
      go_wp2_with fail
      go_ret
      exact ⟨rfl, B17⟩
theorem bitsetTells_any (A : Option Addr) (m c : Nat) (xs : List Int) (B : Option Addr) (m' c' : Nat) (ys : List Int) (D : Option Addr) (k d : Nat) (l : List Int) (hb : ∀ z ∈ l, -9223372036854775808 ≤ z ∧ z ≤ 9223372036854775807) (w : World) (hT : Tz w)
    (hx : WArg w A m c xs) (hy : WArg w B m' c' ys) (hl : Rd w w.heap.size D k (l.map (.int .i64))) :
    Calls Tryd.prog 3 #[.slice A m c, .slice B m' c', .slice D k d] w fun e w' => e = .returned (.bool true) ∧ Below w.heap.size w w' := by
  by_cases h : 80 < m ∨ 80 < m' ∨ 200 < k
  · exact bitsetTells_out A m c B m' c' D k d w hT h
  · exact bitsetTells_walk A m c xs B m' c' ys D k d l hb w hT hx hy hl (by omega) (by omega) (by omega)
end Go.Proofs.YtknnalaemndnaaaDoor
