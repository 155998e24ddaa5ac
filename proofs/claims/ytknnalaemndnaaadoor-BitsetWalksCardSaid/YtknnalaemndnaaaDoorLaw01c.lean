/- Walk of the law BitsetAlgebra. -/
import Derived.Test.YtknnalaemndnaaaDoorLaw01b
namespace Go.Proofs.YtknnalaemndnaaaDoor
open Go.RowKit
theorem hasE_canon {p : Nat → Bool} {ws : List Int} (h : Canon p ws) (n : Int) : hasE ws n = (decide (0 ≤ n ∧ n < 4096) && p n.toNat) := by
  unfold hasE
  by_cases hn : 0 ≤ n ∧ n < 4096
  · rw [h.2.2.1 n.toNat (by omega)]
  · rw [decide_eq_false hn, Bool.false_and, Bool.false_and]
theorem lst_parts (p q : Nat → Bool) : ∀ m, (lst (fun n => p n || q n) m).length = (lst (fun n => p n && q n) m).length + (lst (fun n => p n && !q n) m).length + (lst (fun n => q n && !p n) m).length := by
  intro m
  induction m with
  | zero => rfl
  | succ m ih =>
    rw [lst_succ, lst_succ, lst_succ, lst_succ, List.length_append, List.length_append, List.length_append, List.length_append, ih]
    cases p m <;> cases q m <;> simp <;> omega
theorem listE_canon {p : Nat → Bool} {ws : List Int} (h : Canon p ws) : listE ws = lst p 4096 := lst_congr h.2.2.1
theorem warg_nil (w : World) : WArg w none 0 0 [] := ⟨Rd.nil_, by simp, Nat.le_refl _, fun _ => rfl⟩
set_option maxRecDepth 100000 in
set_option maxHeartbeats 1000000 in
theorem bitsetAlgebra_out (A : Option Addr) (m c : Nat) (B : Option Addr) (m' c' : Nat) (n : Int) (w : World) (hT : Tz w) (h : 200 < m ∨ 200 < m') :
    Calls Tryd.prog 4 #[.slice A m c, .slice B m' c', .int .i64 n] w fun e w' => e = .returned (.bool true) ∧ Below w.heap.size w w' := by
  have hl := Lib.hid (lives01 w hT)
  have T : Hid (decide (200 < (m : Int)) = true ∨ (decide (200 < (m : Int)) = false ∧ decide (200 < (m' : Int)) = true)) := by
    show _ ∨ _
    simp; omega
  clear h hT
  rcases T.out with t1 | ⟨t1, t2⟩
  all_goals
    go_enter Tryd.func4, Tryd.ntmps4
    go_wp2_with (go_at_call 6; refine hl.out.mono ?_; rintro e w1 ⟨rfl, hb1⟩)
    go_ret
    exact ⟨rfl, hb1⟩
set_option maxRecDepth 100000 in
set_option maxHeartbeats 8000000 in
theorem bitsetAlgebra_walk (A : Option Addr) (m c : Nat) (xs : List Int) (B : Option Addr) (m' c' : Nat) (ys : List Int) (n : Int) (hn : n ≤ 9223372036854775807) (w : World) (hT : Tz w)
    (hx : WArg w A m c xs) (hy : WArg w B m' c' ys) (hm : m ≤ 200) (hm' : m' ≤ 200) (x y : Bool) (ex : hasE xs n = x) (ey : hasE ys n = y) :
    Calls Tryd.prog 4 #[.slice A m c, .slice B m' c', .int .i64 n] w fun e w' => e = .returned (.bool true) ∧ Below w.heap.size w w' := by
  have t1 : decide (200 < (m : Int)) = false := by simp; omega
  have t2 : decide (200 < (m' : Int)) = false := by simp; omega
  have X := Lib.hid hx
  have Y := Lib.hid hy
  have HT := Lib.hid hT
  have EX := Lib.hid ex
  have EY := Lib.hid ey
  have l1 := lst_len (fun n => hasB xs n && hasB ys n) 4096
  have l2 := lst_len (fun n => hasB xs n && !hasB ys n) 4096
  have l3 := lst_len (fun n => hasB ys n && !hasB xs n) 4096
  have HSUM := Lib.hid (lst_parts (hasB xs) (hasB ys) 4096)
  obtain ⟨k1, e1⟩ : ∃ k, (lst (fun n => hasB xs n && hasB ys n) 4096).length = k := ⟨_, rfl⟩
  obtain ⟨k2, e2⟩ : ∃ k, (lst (fun n => hasB xs n && !hasB ys n) 4096).length = k := ⟨_, rfl⟩
  obtain ⟨k3, e3⟩ : ∃ k, (lst (fun n => hasB ys n && !hasB xs n) 4096).length = k := ⟨_, rfl⟩
  rw [e1, e2, e3] at HSUM
  rw [e1] at l1
  rw [e2] at l2
  rw [e3] at l3
  have E1 := Lib.hid e1
  have E2 := Lib.hid e2
  have E3 := Lib.hid e3
  clear hx hy hT ex ey e1 e2 e3
  go_enter Tryd.func4, Tryd.ntmps4
  go_wp2_with fail
  refine (lives01 w HT.out).mono ?_
  rintro e w1 ⟨rfl, B1⟩
  have X1 := Lib.hid (X.out.below B1)
  have Y1 := Lib.hid (Y.out.below B1)
  clear X Y HT
  go_wp2_with fail
  refine (set_has X1.out n hn EX.out).mono ?_
  rintro e w' ⟨rfl, rfl⟩
  go_wp2_with fail
  refine (set_has Y1.out n hn EY.out).mono ?_
  rintro e w' ⟨rfl, rfl⟩
  go_wp2_with fail
  refine (bit_union A m c xs B m' c' ys w1 X1.out.rd Y1.out.rd X1.out.word Y1.out.word X1.out.cap Y1.out.cap X1.out.nil_ Y1.out.nil_).mono ?_
  intro e w2 hret
  obtain ⟨vsU, AU, nU, cU, rfl, R, canU, hnU, hb⟩ := hret.open_
  have B2 := B1.trans (hb.mono B1.size)
  have X2 := Lib.hid (X1.out.below hb)
  have Y2 := Lib.hid (Y1.out.below hb)
  have U2 := Lib.hid R
  have CU := Lib.hid canU
  clear hret hb R canU B1 X1 Y1
  go_wp2_with fail
  refine (bit_meet A m c xs B m' c' ys w2 X2.out.rd Y2.out.rd X2.out.word Y2.out.word X2.out.cap Y2.out.cap X2.out.nil_ Y2.out.nil_).mono ?_
  intro e w3 hret
  obtain ⟨vsM, AM, nM, cM, rfl, R, canM, hnM, hb⟩ := hret.open_
  have B3 := B2.trans (hb.mono B2.size)
  have X3 := Lib.hid (X2.out.below hb)
  have Y3 := Lib.hid (Y2.out.below hb)
  have U3 := Lib.hid (U2.out.below hb)
  have M3 := Lib.hid R
  have CM := Lib.hid canM
  clear hret hb R canM B2 X2 Y2 U2
  go_wp2_with fail
  refine (bit_less A m c xs B m' c' ys w3 X3.out.rd Y3.out.rd X3.out.word Y3.out.word X3.out.cap Y3.out.cap X3.out.nil_ Y3.out.nil_).mono ?_
  intro e w4 hret
  obtain ⟨vsL, AL, nL, cL, rfl, R, canL, hnL, hb⟩ := hret.open_
  have B4 := B3.trans (hb.mono B3.size)
  have X4 := Lib.hid (X3.out.below hb)
  have Y4 := Lib.hid (Y3.out.below hb)
  have U4 := Lib.hid (U3.out.below hb)
  have M4 := Lib.hid (M3.out.below hb)
  have L4 := Lib.hid R
  have CL := Lib.hid canL
  clear hret hb R canL B3 X3 Y3 U3 M3
  go_wp2_with fail
  refine (bit_less B m' c' ys A m c xs w4 Y4.out.rd X4.out.rd Y4.out.word X4.out.word Y4.out.cap X4.out.cap Y4.out.nil_ X4.out.nil_).mono ?_
  intro e w5 hret
  obtain ⟨vsQ, AQ, nQ, cQ, rfl, R, canQ, hnQ, hb⟩ := hret.open_
  have B5 := B4.trans (hb.mono B4.size)
  have X5 := Lib.hid (X4.out.below hb)
  have Y5 := Lib.hid (Y4.out.below hb)
  have U5 := Lib.hid (U4.out.below hb)
  have M5 := Lib.hid (M4.out.below hb)
  have L5 := Lib.hid (L4.out.below hb)
  have Q5 := Lib.hid R
  have CQ := Lib.hid canQ
  clear hret hb R canQ B4 X4 Y4 U4 M4 L4
  have hu : hasE vsU n = (x || y) := by
    rw [hasE_canon CU.out, ← EX.out, ← EY.out]; unfold hasE
    cases decide (0 ≤ n ∧ n < 4096) <;> rfl
  have hme : hasE vsM n = (x && y) := by
    rw [hasE_canon CM.out, ← EX.out, ← EY.out]; unfold hasE
    cases decide (0 ≤ n ∧ n < 4096) <;> rfl
  have hle : hasE vsL n = (x && !y) := by
    rw [hasE_canon CL.out, ← EX.out, ← EY.out]; unfold hasE
    cases decide (0 ≤ n ∧ n < 4096) <;> rfl
  have HU := Lib.hid hu
  have HM := Lib.hid hme
  have HL := Lib.hid hle
  have N1 : Hid ((listE vsU).length = k1 + k2 + k3) := by show _ = _; rw [listE_canon CU.out]; exact HSUM.out
  have N2 : Hid ((listE vsM).length = k1) := by show _ = _; rw [listE_canon CM.out]; exact E1.out
  have N3 : Hid ((listE vsL).length = k2) := by show _ = _; rw [listE_canon CL.out]; exact E2.out
  have N4 : Hid ((listE vsQ).length = k3) := by show _ = _; rw [listE_canon CQ.out]; exact E3.out
  clear hu hme hle EX EY E1 E2 E3 HSUM
  cases x <;> cases y
  all_goals
    go_wp2_with fail
    refine (set_has U5.out n hn HU.out).mono ?_
    rintro e w' ⟨rfl, rfl⟩
    go_wp2_with fail
    refine (set_has M5.out n hn HM.out).mono ?_
    rintro e w' ⟨rfl, rfl⟩
    go_wp2_with fail
    refine (set_has L5.out n hn HL.out).mono ?_
    rintro e w' ⟨rfl, rfl⟩
    go_wp2_with fail
    refine (set_count U5.out N1.out).mono ?_
    rintro e w' ⟨rfl, rfl⟩
    go_wp2_with fail
    refine (set_count M5.out N2.out).mono ?_
    rintro e w' ⟨rfl, rfl⟩
    go_wp2_with fail
    refine (set_count L5.out N3.out).mono ?_
    rintro e w' ⟨rfl, rfl⟩
    go_wp2_with fail
    refine (set_count Q5.out N4.out).mono ?_
    rintro e w' ⟨rfl, rfl⟩
    go_wp2_with fail
    refine (bit_union AM nM cM vsM AL nL cL vsL w5 M5.out.rd L5.out.rd M5.out.word L5.out.word M5.out.cap L5.out.cap M5.out.nil_ L5.out.nil_).mono ?_
    intro e w6 hret
    obtain ⟨vsG, AG, nG, cG, rfl, R, canG, hnG, hb⟩ := hret.open_
    have B6 := B5.trans (hb.mono B5.size)
    have X6 := Lib.hid (X5.out.below hb)
    have Y6 := Lib.hid (Y5.out.below hb)
    have U6 := Lib.hid (U5.out.below hb)
    have M6 := Lib.hid (M5.out.below hb)
    have L6 := Lib.hid (L5.out.below hb)
    have Q6 := Lib.hid (Q5.out.below hb)
    have G6 := Lib.hid R
    have CG := Lib.hid canG
    clear hret hb R canG B5 X5 Y5 U5 M5 L5 Q5
    go_wp2_with fail
    refine (bit_union A m c xs none 0 0 [] w6 X6.out.rd (warg_nil w6).rd X6.out.word (warg_nil w).word X6.out.cap (warg_nil w).cap X6.out.nil_ (warg_nil w).nil_).mono ?_
    intro e w7 hret
    obtain ⟨vsI, AI, nI, cI, rfl, R, canI, hnI, hb⟩ := hret.open_
    have B7 := B6.trans (hb.mono B6.size)
    have X7 := Lib.hid (X6.out.below hb)
    have Y7 := Lib.hid (Y6.out.below hb)
    have U7 := Lib.hid (U6.out.below hb)
    have M7 := Lib.hid (M6.out.below hb)
    have L7 := Lib.hid (L6.out.below hb)
    have Q7 := Lib.hid (Q6.out.below hb)
    have G7 := Lib.hid (G6.out.below hb)
    have I7 := Lib.hid R
    have CI := Lib.hid canI
    clear hret hb R canI B6 X6 Y6 U6 M6 L6 Q6 G6
    have hsm := set_same G7.out I7.out (canon_one CG.out (canon_congr CI.out fun j hj => by rw [CM.out.2.2.1 j hj, CL.out.2.2.1 j hj, show hasB [] j = false from hasB_out (by simp)]; dsimp only; cases hasB xs j <;> cases hasB ys j <;> rfl)) (by omega)
    have HSM := Lib.hid hsm
    clear hsm
    go_wp2_with fail
    refine HSM.out.mono ?_
    rintro e w8 ⟨rfl, q, hw⟩
    have hb : Below w7.heap.size w7 w8 := by rw [hw]; exact below_drewN (Below.refl _ _) q
    have B8 := B7.trans (hb.mono B7.size)
    have X8 := Lib.hid (X7.out.below hb)
    have Y8 := Lib.hid (Y7.out.below hb)
    have U8 := Lib.hid (U7.out.below hb)
    have M8 := Lib.hid (M7.out.below hb)
    have L8 := Lib.hid (L7.out.below hb)
    have Q8 := Lib.hid (Q7.out.below hb)
    have G8 := Lib.hid (G7.out.below hb)
    have I8 := Lib.hid (I7.out.below hb)
    clear hw hb HSM B7 X7 Y7 U7 M7 L7 Q7 G7 I7
    go_wp2_with fail
    refine (bit_union B m' c' ys A m c xs w8 Y8.out.rd X8.out.rd Y8.out.word X8.out.word Y8.out.cap X8.out.cap Y8.out.nil_ X8.out.nil_).mono ?_
    intro e w9 hret
    obtain ⟨vsJ, AJ, nJ, cJ, rfl, R, canJ, hnJ, hb⟩ := hret.open_
    have B9 := B8.trans (hb.mono B8.size)
    have X9 := Lib.hid (X8.out.below hb)
    have Y9 := Lib.hid (Y8.out.below hb)
    have U9 := Lib.hid (U8.out.below hb)
    have L9 := Lib.hid (L8.out.below hb)
    have J9 := Lib.hid R
    have CJ := Lib.hid canJ
    clear hret hb R canJ B8 X8 Y8 U8 L8
    have hsm := set_same U9.out J9.out (canon_one CU.out (canon_congr CJ.out fun j _ => Bool.or_comm _ _)) (by omega)
    have HSM := Lib.hid hsm
    clear hsm
    go_wp2_with fail
    refine HSM.out.mono ?_
    rintro e w10 ⟨rfl, q, hw⟩
    have hb : Below w9.heap.size w9 w10 := by rw [hw]; exact below_drewN (Below.refl _ _) q
    have B10 := B9.trans (hb.mono B9.size)
    have X10 := Lib.hid (X9.out.below hb)
    have Y10 := Lib.hid (Y9.out.below hb)
    have U10 := Lib.hid (U9.out.below hb)
    have L10 := Lib.hid (L9.out.below hb)
    have J10 := Lib.hid (J9.out.below hb)
    clear hw hb HSM B9 X9 Y9 U9 L9 J9
    go_wp2_with fail
    refine (bit_meet AL nL cL vsL B m' c' ys w10 L10.out.rd Y10.out.rd L10.out.word Y10.out.word L10.out.cap Y10.out.cap L10.out.nil_ Y10.out.nil_).mono ?_
    intro e w11 hret
    obtain ⟨vsK, AK, nK, cK, rfl, R, canK, hnK, hb⟩ := hret.open_
    have B11 := B10.trans (hb.mono B10.size)
    have X11 := Lib.hid (X10.out.below hb)
    have Y11 := Lib.hid (Y10.out.below hb)
    have U11 := Lib.hid (U10.out.below hb)
    have L11 := Lib.hid (L10.out.below hb)
    have J11 := Lib.hid (J10.out.below hb)
    have K11 := Lib.hid R
    have CK := Lib.hid canK
    clear hret hb R canK B10 X10 Y10 U10 L10 J10
    obtain rfl := canon_one CK.out (canon_nil fun j hj => by rw [CL.out.2.2.1 j hj]; dsimp only; cases hasB xs j <;> cases hasB ys j <;> rfl)
    obtain rfl : nK = 0 := K11.out.len.symm
    go_wp2_with fail
    go_ret
    exact ⟨rfl, B11⟩
theorem bitsetAlgebra_any (A : Option Addr) (m c : Nat) (xs : List Int) (B : Option Addr) (m' c' : Nat) (ys : List Int) (n : Int) (hn : n ≤ 9223372036854775807) (w : World) (hT : Tz w)
    (hx : WArg w A m c xs) (hy : WArg w B m' c' ys) :
    Calls Tryd.prog 4 #[.slice A m c, .slice B m' c', .int .i64 n] w fun e w' => e = .returned (.bool true) ∧ Below w.heap.size w w' := by
  by_cases h : 200 < m ∨ 200 < m'
  · exact bitsetAlgebra_out A m c B m' c' n w hT h
  · exact bitsetAlgebra_walk A m c xs B m' c' ys n hn w hT hx hy (by omega) (by omega) _ _ rfl rfl
end Go.Proofs.YtknnalaemndnaaaDoor
