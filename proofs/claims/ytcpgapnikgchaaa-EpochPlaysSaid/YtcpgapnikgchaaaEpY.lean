/- The document's clock: Look. Printed by genEpE.py. -/
import Derived.Test.YtcpgapnikgchaaaEpX
import Derived.Deep.Cut
namespace Go.Proofs.Ytcpgapnikgchaaa
open Go.RowKit
set_option maxRecDepth 100000 in
set_option maxHeartbeats 1000000 in
theorem r_look_a (e a : Nat) (LA RA MA : Option Addr) (n lc rc k mc : Nat) (ys : List Int) (w : World) (hs : Rd w w.heap.size RA n (ys.map (.int .i64))) (hi : a < n) (_hn : n ≤ 64) (_he : e ≤ 4611686018427387904) (h0 : ig ys a ≠ 0) (h1 : ig ys a ≠ (e : Int) + 1) :
    Calls Try.prog 16 #[cV e a (.slice LA n lc) (.slice RA n rc) (.slice MA k mc)] w fun en w' => en = .returned (.tuple #[.agg #[.int .i64 e, .slice LA n lc, .slice RA n rc, .slice MA k mc, .int .i64 0], .bool false]) ∧ Below w.heap.size w w' := by
  unfold cV
  obtain ⟨rb, ro, rfl, hrb, hrc⟩ := hs.atI hi
  have K0 := CB.new w #[.int .i64 e, .slice LA n lc, .slice (some ⟨rb, ro, none⟩) n rc, .slice MA k mc, .int .i64 a]
  have hrc1 := (K0.bel.cell (p := ⟨rb, ro + a, none⟩) hrb).trans hrc
  have tn : ((n : Int) == 0) = false := beq_false_of_ne (by omega)
  have t1 : (ig ys a != 0) = true := bne_iff_ne.2 h0
  have t2 : (ig ys a != (e : Int) + 1) = true := bne_iff_ne.2 h1
  go_enter Try.func16, Try.ntmps16
  go_upto_region 1 with fail
  obtain ⟨w0, hw0⟩ : ∃ x, (w.alloc (.cells #[.int .i64 e, .slice LA n lc, .slice (some ⟨rb, ro, none⟩) n rc, .slice MA k mc, .int .i64 a] 31)).alloc (.cells c0s 31) = x := ⟨_, rfl⟩
  have hw0' := hw0
  unfold c0s at hw0'
  rw [hw0] at K0 hrc1
  rw [hw0']
  have H0 := Lib.hid K0
  clear hw0 hw0' K0 hs hrc hrb
  obtain ⟨⟨z0, z1, z2, z3, z4⟩, _, ⟨u0, u1, u2, u3, u4⟩, _, f0, _, f2, _⟩ := H0.out.facts
  go_upto_region 6 with fail
  clear z0 z1 z2 z3 z4 u0 u1 u2 u3 u4 f0 f2 hrc1
  have K1 : CB w _ w.heap.size #[.int .i64 e, .slice LA n lc, .slice (some ⟨rb, ro, none⟩) n rc, .slice MA k mc, .int .i64 0] c0s := H0.out.set0 4 (.int .i64 0)
  obtain ⟨w1, hw1⟩ : ∃ x, w0.setCell ⟨w.heap.size, 4, none⟩ (.int .i64 0) = x := ⟨_, rfl⟩
  rw [hw1] at K1 ⊢
  have H1 := Lib.hid K1
  clear hw1 K1 H0
  obtain ⟨⟨z0, z1, z2, z3, z4⟩, _, ⟨u0, u1, u2, u3, u4⟩, _, f0, _, f2, _⟩ := H1.out.facts
  have K4 := H1.out.done (.int .i64 e) (.slice LA n lc) (.slice (some ⟨rb, ro, none⟩) n rc) (.slice MA k mc) (.int .i64 0)
  clear H1
  go_wp2
  change bodyPost _ _ _ _ _ (put5 w1 (w.heap.size + 1) (.int .i64 e) (.slice LA n lc) (.slice (some ⟨rb, ro, none⟩) n rc) (.slice MA k mc) (.int .i64 0))
  obtain ⟨wF, hF⟩ : ∃ x, put5 w1 (w.heap.size + 1) (.int .i64 e) (.slice LA n lc) (.slice (some ⟨rb, ro, none⟩) n rc) (.slice MA k mc) (.int .i64 0) = x := ⟨_, rfl⟩
  rw [hF] at K4  ⊢
  have m0 := K4.k1.cell 0
  have m1 := K4.k1.cell 1
  have m2 := K4.k1.cell 2
  have m3 := K4.k1.cell 3
  have m4 := K4.k1.cell 4
  refine bodyPost_ret (v := .tuple #[.agg #[.int .i64 e, .slice LA n lc, .slice (some ⟨rb, ro, none⟩) n rc, .slice MA k mc, .int .i64 0], .bool false]) ?_ rfl ⟨rfl, K4.bel⟩
  simp [results, Try.results16, go_sem, m0, m1, m2, m3, m4]
set_option maxRecDepth 100000 in
set_option maxHeartbeats 1000000 in
theorem r_look_b1 (e a : Nat) (LA RA MA : Option Addr) (n lc rc k mc : Nat) (ys : List Int) (w : World) (hs : Rd w w.heap.size RA n (ys.map (.int .i64))) (hi : a < n) (_hn : n ≤ 64) (_he : e ≤ 4611686018427387904) (h0 : ig ys a = 0) (h1 : a + 1 < n) :
    Calls Try.prog 16 #[cV e a (.slice LA n lc) (.slice RA n rc) (.slice MA k mc)] w fun en w' => en = .returned (.tuple #[.agg #[.int .i64 e, .slice LA n lc, .slice RA n rc, .slice MA k mc, .int .i64 ((a : Int) + 1)], .bool false]) ∧ Below w.heap.size w w' := by
  unfold cV
  obtain ⟨rb, ro, rfl, hrb, hrc⟩ := hs.atI hi
  have K0 := CB.new w #[.int .i64 e, .slice LA n lc, .slice (some ⟨rb, ro, none⟩) n rc, .slice MA k mc, .int .i64 a]
  have hrc1 := (K0.bel.cell (p := ⟨rb, ro + a, none⟩) hrb).trans hrc
  have tn : ((n : Int) == 0) = false := beq_false_of_ne (by omega)
  have t1 : (ig ys a != 0) = false := by simp [h0]
  have t3 : decide ((a : Int) + 1 < (n : Int)) = true := by simp; omega
  go_enter Try.func16, Try.ntmps16
  go_upto_region 1 with fail
  obtain ⟨w0, hw0⟩ : ∃ x, (w.alloc (.cells #[.int .i64 e, .slice LA n lc, .slice (some ⟨rb, ro, none⟩) n rc, .slice MA k mc, .int .i64 a] 31)).alloc (.cells c0s 31) = x := ⟨_, rfl⟩
  have hw0' := hw0
  unfold c0s at hw0'
  rw [hw0] at K0 hrc1
  rw [hw0']
  have H0 := Lib.hid K0
  clear hw0 hw0' K0 hs hrc hrb
  obtain ⟨⟨z0, z1, z2, z3, z4⟩, _, ⟨u0, u1, u2, u3, u4⟩, _, f0, _, f2, _⟩ := H0.out.facts
  go_upto_region 8 with fail
  clear z0 z1 z2 z3 z4 u0 u1 u2 u3 u4 f0 f2 hrc1
  have K1 : CB w _ w.heap.size #[.int .i64 e, .slice LA n lc, .slice (some ⟨rb, ro, none⟩) n rc, .slice MA k mc, .int .i64 ((a : Int) + 1)] c0s := H0.out.set0 4 (.int .i64 ((a : Int) + 1))
  obtain ⟨w1, hw1⟩ : ∃ x, w0.setCell ⟨w.heap.size, 4, none⟩ (.int .i64 ((a : Int) + 1)) = x := ⟨_, rfl⟩
  rw [hw1] at K1 ⊢
  have H1 := Lib.hid K1
  clear hw1 K1 H0
  obtain ⟨⟨z0, z1, z2, z3, z4⟩, _, ⟨u0, u1, u2, u3, u4⟩, _, f0, _, f2, _⟩ := H1.out.facts
  have K4 := H1.out.done (.int .i64 e) (.slice LA n lc) (.slice (some ⟨rb, ro, none⟩) n rc) (.slice MA k mc) (.int .i64 ((a : Int) + 1))
  clear H1
  go_wp2
  change bodyPost _ _ _ _ _ (put5 w1 (w.heap.size + 1) (.int .i64 e) (.slice LA n lc) (.slice (some ⟨rb, ro, none⟩) n rc) (.slice MA k mc) (.int .i64 ((a : Int) + 1)))
  obtain ⟨wF, hF⟩ : ∃ x, put5 w1 (w.heap.size + 1) (.int .i64 e) (.slice LA n lc) (.slice (some ⟨rb, ro, none⟩) n rc) (.slice MA k mc) (.int .i64 ((a : Int) + 1)) = x := ⟨_, rfl⟩
  rw [hF] at K4  ⊢
  have m0 := K4.k1.cell 0
  have m1 := K4.k1.cell 1
  have m2 := K4.k1.cell 2
  have m3 := K4.k1.cell 3
  have m4 := K4.k1.cell 4
  refine bodyPost_ret (v := .tuple #[.agg #[.int .i64 e, .slice LA n lc, .slice (some ⟨rb, ro, none⟩) n rc, .slice MA k mc, .int .i64 ((a : Int) + 1)], .bool false]) ?_ rfl ⟨rfl, K4.bel⟩
  simp [results, Try.results16, go_sem, m0, m1, m2, m3, m4]
set_option maxRecDepth 100000 in
set_option maxHeartbeats 1000000 in
theorem r_look_c1 (e a : Nat) (LA RA MA : Option Addr) (n lc rc k mc : Nat) (ys : List Int) (w : World) (hs : Rd w w.heap.size RA n (ys.map (.int .i64))) (hi : a < n) (_hn : n ≤ 64) (_he : e ≤ 4611686018427387904) (h0 : ig ys a = 0) (h1 : n ≤ a + 1) :
    Calls Try.prog 16 #[cV e a (.slice LA n lc) (.slice RA n rc) (.slice MA k mc)] w fun en w' => en = .returned (.tuple #[.agg #[.int .i64 ((e : Int) + 1), .slice LA n lc, .slice RA n rc, .slice MA k mc, .int .i64 0], .bool true]) ∧ Below w.heap.size w w' := by
  unfold cV
  obtain ⟨rb, ro, rfl, hrb, hrc⟩ := hs.atI hi
  have K0 := CB.new w #[.int .i64 e, .slice LA n lc, .slice (some ⟨rb, ro, none⟩) n rc, .slice MA k mc, .int .i64 a]
  have hrc1 := (K0.bel.cell (p := ⟨rb, ro + a, none⟩) hrb).trans hrc
  have tn : ((n : Int) == 0) = false := beq_false_of_ne (by omega)
  have t1 : (ig ys a != 0) = false := by simp [h0]
  have t3 : decide ((a : Int) + 1 < (n : Int)) = false := by simp; omega
  go_enter Try.func16, Try.ntmps16
  go_upto_region 1 with fail
  obtain ⟨w0, hw0⟩ : ∃ x, (w.alloc (.cells #[.int .i64 e, .slice LA n lc, .slice (some ⟨rb, ro, none⟩) n rc, .slice MA k mc, .int .i64 a] 31)).alloc (.cells c0s 31) = x := ⟨_, rfl⟩
  have hw0' := hw0
  unfold c0s at hw0'
  rw [hw0] at K0 hrc1
  rw [hw0']
  have H0 := Lib.hid K0
  clear hw0 hw0' K0 hs hrc hrb
  obtain ⟨⟨z0, z1, z2, z3, z4⟩, _, ⟨u0, u1, u2, u3, u4⟩, _, f0, _, f2, _⟩ := H0.out.facts
  go_upto_region 8 with fail
  clear z0 z1 z2 z3 z4 u0 u1 u2 u3 u4 f0 f2 hrc1
  have K1 : CB w _ w.heap.size #[.int .i64 e, .slice LA n lc, .slice (some ⟨rb, ro, none⟩) n rc, .slice MA k mc, .int .i64 ((a : Int) + 1)] c0s := H0.out.set0 4 (.int .i64 ((a : Int) + 1))
  obtain ⟨w1, hw1⟩ : ∃ x, w0.setCell ⟨w.heap.size, 4, none⟩ (.int .i64 ((a : Int) + 1)) = x := ⟨_, rfl⟩
  rw [hw1] at K1 ⊢
  have H1 := Lib.hid K1
  clear hw1 K1 H0
  obtain ⟨⟨z0, z1, z2, z3, z4⟩, _, ⟨u0, u1, u2, u3, u4⟩, _, f0, _, f2, _⟩ := H1.out.facts
  go_upto_region 11 with fail
  clear z0 z1 z2 z3 z4 u0 u1 u2 u3 u4 f0 f2
  have K2 : CB w _ w.heap.size #[.int .i64 e, .slice LA n lc, .slice (some ⟨rb, ro, none⟩) n rc, .slice MA k mc, .int .i64 0] c0s := H1.out.set0 4 (.int .i64 0)
  obtain ⟨w2, hw2⟩ : ∃ x, w1.setCell ⟨w.heap.size, 4, none⟩ (.int .i64 0) = x := ⟨_, rfl⟩
  rw [hw2] at K2 ⊢
  have H2 := Lib.hid K2
  clear hw2 K2 H1
  obtain ⟨⟨z0, z1, z2, z3, z4⟩, _, ⟨u0, u1, u2, u3, u4⟩, _, f0, _, f2, _⟩ := H2.out.facts
  go_upto_region 12 with fail
  clear z0 z1 z2 z3 z4 u0 u1 u2 u3 u4 f0 f2
  have K3 : CB w _ w.heap.size #[.int .i64 ((e : Int) + 1), .slice LA n lc, .slice (some ⟨rb, ro, none⟩) n rc, .slice MA k mc, .int .i64 0] c0s := H2.out.set0 0 (.int .i64 ((e : Int) + 1))
  obtain ⟨w3, hw3⟩ : ∃ x, w2.setCell ⟨w.heap.size, 0, none⟩ (.int .i64 ((e : Int) + 1)) = x := ⟨_, rfl⟩
  rw [hw3] at K3 ⊢
  have H3 := Lib.hid K3
  clear hw3 K3 H2
  obtain ⟨⟨z0, z1, z2, z3, z4⟩, _, ⟨u0, u1, u2, u3, u4⟩, _, f0, _, f2, _⟩ := H3.out.facts
  have K4 := H3.out.done (.int .i64 ((e : Int) + 1)) (.slice LA n lc) (.slice (some ⟨rb, ro, none⟩) n rc) (.slice MA k mc) (.int .i64 0)
  clear H3
  go_wp2
  change bodyPost _ _ _ _ _ (put5 w3 (w.heap.size + 1) (.int .i64 ((e : Int) + 1)) (.slice LA n lc) (.slice (some ⟨rb, ro, none⟩) n rc) (.slice MA k mc) (.int .i64 0))
  obtain ⟨wF, hF⟩ : ∃ x, put5 w3 (w.heap.size + 1) (.int .i64 ((e : Int) + 1)) (.slice LA n lc) (.slice (some ⟨rb, ro, none⟩) n rc) (.slice MA k mc) (.int .i64 0) = x := ⟨_, rfl⟩
  rw [hF] at K4  ⊢
  have m0 := K4.k1.cell 0
  have m1 := K4.k1.cell 1
  have m2 := K4.k1.cell 2
  have m3 := K4.k1.cell 3
  have m4 := K4.k1.cell 4
  refine bodyPost_ret (v := .tuple #[.agg #[.int .i64 ((e : Int) + 1), .slice LA n lc, .slice (some ⟨rb, ro, none⟩) n rc, .slice MA k mc, .int .i64 0], .bool true]) ?_ rfl ⟨rfl, K4.bel⟩
  simp [results, Try.results16, go_sem, m0, m1, m2, m3, m4]
set_option maxRecDepth 100000 in
set_option maxHeartbeats 1000000 in
theorem r_look_b2 (e a : Nat) (LA RA MA : Option Addr) (n lc rc k mc : Nat) (ys : List Int) (w : World) (hs : Rd w w.heap.size RA n (ys.map (.int .i64))) (hi : a < n) (_hn : n ≤ 64) (_he : e ≤ 4611686018427387904) (h0 : ig ys a = (e : Int) + 1) (h1 : a + 1 < n) :
    Calls Try.prog 16 #[cV e a (.slice LA n lc) (.slice RA n rc) (.slice MA k mc)] w fun en w' => en = .returned (.tuple #[.agg #[.int .i64 e, .slice LA n lc, .slice RA n rc, .slice MA k mc, .int .i64 ((a : Int) + 1)], .bool false]) ∧ Below w.heap.size w w' := by
  unfold cV
  obtain ⟨rb, ro, rfl, hrb, hrc⟩ := hs.atI hi
  have K0 := CB.new w #[.int .i64 e, .slice LA n lc, .slice (some ⟨rb, ro, none⟩) n rc, .slice MA k mc, .int .i64 a]
  have hrc1 := (K0.bel.cell (p := ⟨rb, ro + a, none⟩) hrb).trans hrc
  have tn : ((n : Int) == 0) = false := beq_false_of_ne (by omega)
  have t1 : (ig ys a != 0) = true := bne_iff_ne.2 (by omega)
  have t2 : (ig ys a != (e : Int) + 1) = false := by simp [h0]
  have t3 : decide ((a : Int) + 1 < (n : Int)) = true := by simp; omega
  go_enter Try.func16, Try.ntmps16
  go_upto_region 1 with fail
  obtain ⟨w0, hw0⟩ : ∃ x, (w.alloc (.cells #[.int .i64 e, .slice LA n lc, .slice (some ⟨rb, ro, none⟩) n rc, .slice MA k mc, .int .i64 a] 31)).alloc (.cells c0s 31) = x := ⟨_, rfl⟩
  have hw0' := hw0
  unfold c0s at hw0'
  rw [hw0] at K0 hrc1
  rw [hw0']
  have H0 := Lib.hid K0
  clear hw0 hw0' K0 hs hrc hrb
  obtain ⟨⟨z0, z1, z2, z3, z4⟩, _, ⟨u0, u1, u2, u3, u4⟩, _, f0, _, f2, _⟩ := H0.out.facts
  go_upto_region 8 with fail
  clear z0 z1 z2 z3 z4 u0 u1 u2 u3 u4 f0 f2 hrc1
  have K1 : CB w _ w.heap.size #[.int .i64 e, .slice LA n lc, .slice (some ⟨rb, ro, none⟩) n rc, .slice MA k mc, .int .i64 ((a : Int) + 1)] c0s := H0.out.set0 4 (.int .i64 ((a : Int) + 1))
  obtain ⟨w1, hw1⟩ : ∃ x, w0.setCell ⟨w.heap.size, 4, none⟩ (.int .i64 ((a : Int) + 1)) = x := ⟨_, rfl⟩
  rw [hw1] at K1 ⊢
  have H1 := Lib.hid K1
  clear hw1 K1 H0
  obtain ⟨⟨z0, z1, z2, z3, z4⟩, _, ⟨u0, u1, u2, u3, u4⟩, _, f0, _, f2, _⟩ := H1.out.facts
  have K4 := H1.out.done (.int .i64 e) (.slice LA n lc) (.slice (some ⟨rb, ro, none⟩) n rc) (.slice MA k mc) (.int .i64 ((a : Int) + 1))
  clear H1
  go_wp2
  change bodyPost _ _ _ _ _ (put5 w1 (w.heap.size + 1) (.int .i64 e) (.slice LA n lc) (.slice (some ⟨rb, ro, none⟩) n rc) (.slice MA k mc) (.int .i64 ((a : Int) + 1)))
  obtain ⟨wF, hF⟩ : ∃ x, put5 w1 (w.heap.size + 1) (.int .i64 e) (.slice LA n lc) (.slice (some ⟨rb, ro, none⟩) n rc) (.slice MA k mc) (.int .i64 ((a : Int) + 1)) = x := ⟨_, rfl⟩
  rw [hF] at K4  ⊢
  have m0 := K4.k1.cell 0
  have m1 := K4.k1.cell 1
  have m2 := K4.k1.cell 2
  have m3 := K4.k1.cell 3
  have m4 := K4.k1.cell 4
  refine bodyPost_ret (v := .tuple #[.agg #[.int .i64 e, .slice LA n lc, .slice (some ⟨rb, ro, none⟩) n rc, .slice MA k mc, .int .i64 ((a : Int) + 1)], .bool false]) ?_ rfl ⟨rfl, K4.bel⟩
  simp [results, Try.results16, go_sem, m0, m1, m2, m3, m4]
set_option maxRecDepth 100000 in
set_option maxHeartbeats 1000000 in
theorem r_look_c2 (e a : Nat) (LA RA MA : Option Addr) (n lc rc k mc : Nat) (ys : List Int) (w : World) (hs : Rd w w.heap.size RA n (ys.map (.int .i64))) (hi : a < n) (_hn : n ≤ 64) (_he : e ≤ 4611686018427387904) (h0 : ig ys a = (e : Int) + 1) (h1 : n ≤ a + 1) :
    Calls Try.prog 16 #[cV e a (.slice LA n lc) (.slice RA n rc) (.slice MA k mc)] w fun en w' => en = .returned (.tuple #[.agg #[.int .i64 ((e : Int) + 1), .slice LA n lc, .slice RA n rc, .slice MA k mc, .int .i64 0], .bool true]) ∧ Below w.heap.size w w' := by
  unfold cV
  obtain ⟨rb, ro, rfl, hrb, hrc⟩ := hs.atI hi
  have K0 := CB.new w #[.int .i64 e, .slice LA n lc, .slice (some ⟨rb, ro, none⟩) n rc, .slice MA k mc, .int .i64 a]
  have hrc1 := (K0.bel.cell (p := ⟨rb, ro + a, none⟩) hrb).trans hrc
  have tn : ((n : Int) == 0) = false := beq_false_of_ne (by omega)
  have t1 : (ig ys a != 0) = true := bne_iff_ne.2 (by omega)
  have t2 : (ig ys a != (e : Int) + 1) = false := by simp [h0]
  have t3 : decide ((a : Int) + 1 < (n : Int)) = false := by simp; omega
  go_enter Try.func16, Try.ntmps16
  go_upto_region 1 with fail
  obtain ⟨w0, hw0⟩ : ∃ x, (w.alloc (.cells #[.int .i64 e, .slice LA n lc, .slice (some ⟨rb, ro, none⟩) n rc, .slice MA k mc, .int .i64 a] 31)).alloc (.cells c0s 31) = x := ⟨_, rfl⟩
  have hw0' := hw0
  unfold c0s at hw0'
  rw [hw0] at K0 hrc1
  rw [hw0']
  have H0 := Lib.hid K0
  clear hw0 hw0' K0 hs hrc hrb
  obtain ⟨⟨z0, z1, z2, z3, z4⟩, _, ⟨u0, u1, u2, u3, u4⟩, _, f0, _, f2, _⟩ := H0.out.facts
  go_upto_region 8 with fail
  clear z0 z1 z2 z3 z4 u0 u1 u2 u3 u4 f0 f2 hrc1
  have K1 : CB w _ w.heap.size #[.int .i64 e, .slice LA n lc, .slice (some ⟨rb, ro, none⟩) n rc, .slice MA k mc, .int .i64 ((a : Int) + 1)] c0s := H0.out.set0 4 (.int .i64 ((a : Int) + 1))
  obtain ⟨w1, hw1⟩ : ∃ x, w0.setCell ⟨w.heap.size, 4, none⟩ (.int .i64 ((a : Int) + 1)) = x := ⟨_, rfl⟩
  rw [hw1] at K1 ⊢
  have H1 := Lib.hid K1
  clear hw1 K1 H0
  obtain ⟨⟨z0, z1, z2, z3, z4⟩, _, ⟨u0, u1, u2, u3, u4⟩, _, f0, _, f2, _⟩ := H1.out.facts
  go_upto_region 11 with fail
  clear z0 z1 z2 z3 z4 u0 u1 u2 u3 u4 f0 f2
  have K2 : CB w _ w.heap.size #[.int .i64 e, .slice LA n lc, .slice (some ⟨rb, ro, none⟩) n rc, .slice MA k mc, .int .i64 0] c0s := H1.out.set0 4 (.int .i64 0)
  obtain ⟨w2, hw2⟩ : ∃ x, w1.setCell ⟨w.heap.size, 4, none⟩ (.int .i64 0) = x := ⟨_, rfl⟩
  rw [hw2] at K2 ⊢
  have H2 := Lib.hid K2
  clear hw2 K2 H1
  obtain ⟨⟨z0, z1, z2, z3, z4⟩, _, ⟨u0, u1, u2, u3, u4⟩, _, f0, _, f2, _⟩ := H2.out.facts
  go_upto_region 12 with fail
  clear z0 z1 z2 z3 z4 u0 u1 u2 u3 u4 f0 f2
  have K3 : CB w _ w.heap.size #[.int .i64 ((e : Int) + 1), .slice LA n lc, .slice (some ⟨rb, ro, none⟩) n rc, .slice MA k mc, .int .i64 0] c0s := H2.out.set0 0 (.int .i64 ((e : Int) + 1))
  obtain ⟨w3, hw3⟩ : ∃ x, w2.setCell ⟨w.heap.size, 0, none⟩ (.int .i64 ((e : Int) + 1)) = x := ⟨_, rfl⟩
  rw [hw3] at K3 ⊢
  have H3 := Lib.hid K3
  clear hw3 K3 H2
  obtain ⟨⟨z0, z1, z2, z3, z4⟩, _, ⟨u0, u1, u2, u3, u4⟩, _, f0, _, f2, _⟩ := H3.out.facts
  have K4 := H3.out.done (.int .i64 ((e : Int) + 1)) (.slice LA n lc) (.slice (some ⟨rb, ro, none⟩) n rc) (.slice MA k mc) (.int .i64 0)
  clear H3
  go_wp2
  change bodyPost _ _ _ _ _ (put5 w3 (w.heap.size + 1) (.int .i64 ((e : Int) + 1)) (.slice LA n lc) (.slice (some ⟨rb, ro, none⟩) n rc) (.slice MA k mc) (.int .i64 0))
  obtain ⟨wF, hF⟩ : ∃ x, put5 w3 (w.heap.size + 1) (.int .i64 ((e : Int) + 1)) (.slice LA n lc) (.slice (some ⟨rb, ro, none⟩) n rc) (.slice MA k mc) (.int .i64 0) = x := ⟨_, rfl⟩
  rw [hF] at K4  ⊢
  have m0 := K4.k1.cell 0
  have m1 := K4.k1.cell 1
  have m2 := K4.k1.cell 2
  have m3 := K4.k1.cell 3
  have m4 := K4.k1.cell 4
  refine bodyPost_ret (v := .tuple #[.agg #[.int .i64 ((e : Int) + 1), .slice LA n lc, .slice (some ⟨rb, ro, none⟩) n rc, .slice MA k mc, .int .i64 0], .bool true]) ?_ rfl ⟨rfl, K4.bel⟩
  simp [results, Try.results16, go_sem, m0, m1, m2, m3, m4]
end Go.Proofs.Ytcpgapnikgchaaa
