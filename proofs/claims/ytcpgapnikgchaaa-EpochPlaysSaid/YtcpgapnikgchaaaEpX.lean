/- The document's clock: Load, Pin, Unpin. Printed by genEpE.py. -/
import Derived.Test.YtcpgapnikgchaaaEpE
import Derived.StillTailTactics
namespace Go.Proofs.Ytcpgapnikgchaaa
open Go.RowKit
set_option maxRecDepth 100000 in
theorem r_load_out (e a : Nat) (LA RA MA : Option Addr) (n lc rc k mc : Nat) (i : Int) (w : World) (hi : i < 0 ∨ (n : Int) ≤ i) :
    Calls Try.prog 8 #[cV e a (.slice LA n lc) (.slice RA n rc) (.slice MA k mc), .int .i64 i] w fun en w' => en = .returned (.tuple #[cV e a (.slice LA n lc) (.slice RA n rc) (.slice MA k mc), .int .i64 0]) ∧ Below w.heap.size w w' := by
  unfold cV
  have h1 := fun w => r_has e a (.slice LA n lc) (.slice MA k mc) RA n rc i w
  rw [show (decide (0 ≤ (i : Int)) && decide ((i : Int) < n)) = false by simp; omega] at h1
  unfold cV at h1
  have K0 := CB.new w #[.int .i64 e, .slice LA n lc, .slice RA n rc, .slice MA k mc, .int .i64 a]
  go_enter Try.func8, Try.ntmps8
  go_wp2_with fail
  refine (h1 _).mono ?_
  rintro en w1 ⟨rfl, b1⟩
  have K1 := K0.below b1
  obtain ⟨⟨z0, z1, z2, z3, z4⟩, ⟨y0, y1, y2, y3, y4⟩, ⟨u0, u1, u2, u3, u4⟩, ⟨v0, v1, v2, v3, v4⟩, f0, f1, f2, f3⟩ := K1.facts
  have K4 := K1.done (.int .i64 e) (.slice LA n lc) (.slice RA n rc) (.slice MA k mc) (.int .i64 a)
  clear K0 b1 h1 K1
  go_wp2
  change bodyPost _ _ _ _ _ (put5 w1 (w.heap.size + 1) (.int .i64 e) (.slice LA n lc) (.slice RA n rc) (.slice MA k mc) (.int .i64 a))
  obtain ⟨wF, hF⟩ : ∃ x, put5 w1 (w.heap.size + 1) (.int .i64 e) (.slice LA n lc) (.slice RA n rc) (.slice MA k mc) (.int .i64 a) = x := ⟨_, rfl⟩
  rw [hF] at K4  ⊢
  have m0 := K4.k1.cell 0
  have m1 := K4.k1.cell 1
  have m2 := K4.k1.cell 2
  have m3 := K4.k1.cell 3
  have m4 := K4.k1.cell 4
  refine bodyPost_ret (v := .tuple #[.agg #[.int .i64 e, .slice LA n lc, .slice RA n rc, .slice MA k mc, .int .i64 a], .int .i64 0]) ?_ rfl ⟨rfl, K4.bel⟩
  simp [results, Try.results8, go_sem, m0, m1, m2, m3, m4]
set_option maxRecDepth 100000 in
theorem r_pin_out (e a : Nat) (LA RA MA : Option Addr) (n lc rc k mc : Nat) (i : Int) (w : World) (hi : i < 0 ∨ (n : Int) ≤ i) :
    Calls Try.prog 10 #[cV e a (.slice LA n lc) (.slice RA n rc) (.slice MA k mc), .int .i64 i] w fun en w' => en = .returned (.tuple #[cV e a (.slice LA n lc) (.slice RA n rc) (.slice MA k mc), .bool false]) ∧ Below w.heap.size w w' := by
  unfold cV
  have h1 := fun w => r_has e a (.slice LA n lc) (.slice MA k mc) RA n rc i w
  rw [show (decide (0 ≤ (i : Int)) && decide ((i : Int) < n)) = false by simp; omega] at h1
  unfold cV at h1
  have K0 := CB.new w #[.int .i64 e, .slice LA n lc, .slice RA n rc, .slice MA k mc, .int .i64 a]
  go_enter Try.func10, Try.ntmps10
  go_wp2_with fail
  refine (h1 _).mono ?_
  rintro en w1 ⟨rfl, b1⟩
  have K1 := K0.below b1
  obtain ⟨⟨z0, z1, z2, z3, z4⟩, ⟨y0, y1, y2, y3, y4⟩, ⟨u0, u1, u2, u3, u4⟩, ⟨v0, v1, v2, v3, v4⟩, f0, f1, f2, f3⟩ := K1.facts
  have K4 := K1.done (.int .i64 e) (.slice LA n lc) (.slice RA n rc) (.slice MA k mc) (.int .i64 a)
  clear K0 b1 h1 K1
  go_wp2
  change bodyPost _ _ _ _ _ (put5 w1 (w.heap.size + 1) (.int .i64 e) (.slice LA n lc) (.slice RA n rc) (.slice MA k mc) (.int .i64 a))
  obtain ⟨wF, hF⟩ : ∃ x, put5 w1 (w.heap.size + 1) (.int .i64 e) (.slice LA n lc) (.slice RA n rc) (.slice MA k mc) (.int .i64 a) = x := ⟨_, rfl⟩
  rw [hF] at K4  ⊢
  have m0 := K4.k1.cell 0
  have m1 := K4.k1.cell 1
  have m2 := K4.k1.cell 2
  have m3 := K4.k1.cell 3
  have m4 := K4.k1.cell 4
  refine bodyPost_ret (v := .tuple #[.agg #[.int .i64 e, .slice LA n lc, .slice RA n rc, .slice MA k mc, .int .i64 a], .bool false]) ?_ rfl ⟨rfl, K4.bel⟩
  simp [results, Try.results10, go_sem, m0, m1, m2, m3, m4]
set_option maxRecDepth 100000 in
theorem r_unpin_out (e a : Nat) (LA RA MA : Option Addr) (n lc rc k mc : Nat) (i : Int) (w : World) (hi : i < 0 ∨ (n : Int) ≤ i) :
    Calls Try.prog 12 #[cV e a (.slice LA n lc) (.slice RA n rc) (.slice MA k mc), .int .i64 i] w fun en w' => en = .returned (.tuple #[cV e a (.slice LA n lc) (.slice RA n rc) (.slice MA k mc), .bool false]) ∧ Below w.heap.size w w' := by
  unfold cV
  have h1 := fun w => r_has e a (.slice LA n lc) (.slice MA k mc) RA n rc i w
  rw [show (decide (0 ≤ (i : Int)) && decide ((i : Int) < n)) = false by simp; omega] at h1
  unfold cV at h1
  have K0 := CB.new w #[.int .i64 e, .slice LA n lc, .slice RA n rc, .slice MA k mc, .int .i64 a]
  go_enter Try.func12, Try.ntmps12
  go_wp2_with fail
  refine (h1 _).mono ?_
  rintro en w1 ⟨rfl, b1⟩
  have K1 := K0.below b1
  obtain ⟨⟨z0, z1, z2, z3, z4⟩, ⟨y0, y1, y2, y3, y4⟩, ⟨u0, u1, u2, u3, u4⟩, ⟨v0, v1, v2, v3, v4⟩, f0, f1, f2, f3⟩ := K1.facts
  have K4 := K1.done (.int .i64 e) (.slice LA n lc) (.slice RA n rc) (.slice MA k mc) (.int .i64 a)
  clear K0 b1 h1 K1
  go_wp2
  change bodyPost _ _ _ _ _ (put5 w1 (w.heap.size + 1) (.int .i64 e) (.slice LA n lc) (.slice RA n rc) (.slice MA k mc) (.int .i64 a))
  obtain ⟨wF, hF⟩ : ∃ x, put5 w1 (w.heap.size + 1) (.int .i64 e) (.slice LA n lc) (.slice RA n rc) (.slice MA k mc) (.int .i64 a) = x := ⟨_, rfl⟩
  rw [hF] at K4  ⊢
  have m0 := K4.k1.cell 0
  have m1 := K4.k1.cell 1
  have m2 := K4.k1.cell 2
  have m3 := K4.k1.cell 3
  have m4 := K4.k1.cell 4
  refine bodyPost_ret (v := .tuple #[.agg #[.int .i64 e, .slice LA n lc, .slice RA n rc, .slice MA k mc, .int .i64 a], .bool false]) ?_ rfl ⟨rfl, K4.bel⟩
  simp [results, Try.results12, go_sem, m0, m1, m2, m3, m4]
set_option maxRecDepth 100000 in
theorem r_pin_no (e a : Nat) (LA RA MA : Option Addr) (n lc rc k mc : Nat) (ys : List Int) (i : Nat) (w : World) (hr : Rd w w.heap.size RA n (ys.map (.int .i64))) (hi : i < n) (hz : ig ys i ≠ 0) :
    Calls Try.prog 10 #[cV e a (.slice LA n lc) (.slice RA n rc) (.slice MA k mc), .int .i64 i] w fun en w' => en = .returned (.tuple #[cV e a (.slice LA n lc) (.slice RA n rc) (.slice MA k mc), .bool false]) ∧ Below w.heap.size w w' := by
  unfold cV
  have h1 := fun w => r_has e a (.slice LA n lc) (.slice MA k mc) RA n rc i w
  rw [show (decide (0 ≤ (i : Int)) && decide ((i : Int) < n)) = true by simp; omega] at h1
  unfold cV at h1
  have K0 := CB.new w #[.int .i64 e, .slice LA n lc, .slice RA n rc, .slice MA k mc, .int .i64 a]
  obtain ⟨rb, ro, rfl, hrb, hrc⟩ := hr.atI hi
  have t1 : (ig ys i != 0) = true := bne_iff_ne.2 hz
  go_enter Try.func10, Try.ntmps10
  go_wp2_with fail
  refine (h1 _).mono ?_
  rintro en w1 ⟨rfl, b1⟩
  have K1 := K0.below b1
  have hrc1 := (K1.bel.cell (p := ⟨rb, ro + i, none⟩) hrb).trans hrc
  obtain ⟨⟨z0, z1, z2, z3, z4⟩, ⟨y0, y1, y2, y3, y4⟩, ⟨u0, u1, u2, u3, u4⟩, ⟨v0, v1, v2, v3, v4⟩, f0, f1, f2, f3⟩ := K1.facts
  have K4 := K1.done (.int .i64 e) (.slice LA n lc) (.slice (some ⟨rb, ro, none⟩) n rc) (.slice MA k mc) (.int .i64 a)
  clear K0 b1 h1 K1 hrc hrb hr
  go_wp2
  change bodyPost _ _ _ _ _ (put5 w1 (w.heap.size + 1) (.int .i64 e) (.slice LA n lc) (.slice (some ⟨rb, ro, none⟩) n rc) (.slice MA k mc) (.int .i64 a))
  obtain ⟨wF, hF⟩ : ∃ x, put5 w1 (w.heap.size + 1) (.int .i64 e) (.slice LA n lc) (.slice (some ⟨rb, ro, none⟩) n rc) (.slice MA k mc) (.int .i64 a) = x := ⟨_, rfl⟩
  rw [hF] at K4  ⊢
  have m0 := K4.k1.cell 0
  have m1 := K4.k1.cell 1
  have m2 := K4.k1.cell 2
  have m3 := K4.k1.cell 3
  have m4 := K4.k1.cell 4
  refine bodyPost_ret (v := .tuple #[.agg #[.int .i64 e, .slice LA n lc, .slice (some ⟨rb, ro, none⟩) n rc, .slice MA k mc, .int .i64 a], .bool false]) ?_ rfl ⟨rfl, K4.bel⟩
  simp [results, Try.results10, go_sem, m0, m1, m2, m3, m4]
set_option maxRecDepth 100000 in
theorem r_unpin_no (e a : Nat) (LA RA MA : Option Addr) (n lc rc k mc : Nat) (ys : List Int) (i : Nat) (w : World) (hr : Rd w w.heap.size RA n (ys.map (.int .i64))) (hi : i < n) (hz : ig ys i = 0) :
    Calls Try.prog 12 #[cV e a (.slice LA n lc) (.slice RA n rc) (.slice MA k mc), .int .i64 i] w fun en w' => en = .returned (.tuple #[cV e a (.slice LA n lc) (.slice RA n rc) (.slice MA k mc), .bool false]) ∧ Below w.heap.size w w' := by
  unfold cV
  have h1 := fun w => r_has e a (.slice LA n lc) (.slice MA k mc) RA n rc i w
  rw [show (decide (0 ≤ (i : Int)) && decide ((i : Int) < n)) = true by simp; omega] at h1
  unfold cV at h1
  have K0 := CB.new w #[.int .i64 e, .slice LA n lc, .slice RA n rc, .slice MA k mc, .int .i64 a]
  obtain ⟨rb, ro, rfl, hrb, hrc⟩ := hr.atI hi
  have t1 : (ig ys i == 0) = true := by simp [hz]
  go_enter Try.func12, Try.ntmps12
  go_wp2_with fail
  refine (h1 _).mono ?_
  rintro en w1 ⟨rfl, b1⟩
  have K1 := K0.below b1
  have hrc1 := (K1.bel.cell (p := ⟨rb, ro + i, none⟩) hrb).trans hrc
  obtain ⟨⟨z0, z1, z2, z3, z4⟩, ⟨y0, y1, y2, y3, y4⟩, ⟨u0, u1, u2, u3, u4⟩, ⟨v0, v1, v2, v3, v4⟩, f0, f1, f2, f3⟩ := K1.facts
  have K4 := K1.done (.int .i64 e) (.slice LA n lc) (.slice (some ⟨rb, ro, none⟩) n rc) (.slice MA k mc) (.int .i64 a)
  clear K0 b1 h1 K1 hrc hrb hr
  go_wp2
  change bodyPost _ _ _ _ _ (put5 w1 (w.heap.size + 1) (.int .i64 e) (.slice LA n lc) (.slice (some ⟨rb, ro, none⟩) n rc) (.slice MA k mc) (.int .i64 a))
  obtain ⟨wF, hF⟩ : ∃ x, put5 w1 (w.heap.size + 1) (.int .i64 e) (.slice LA n lc) (.slice (some ⟨rb, ro, none⟩) n rc) (.slice MA k mc) (.int .i64 a) = x := ⟨_, rfl⟩
  rw [hF] at K4  ⊢
  have m0 := K4.k1.cell 0
  have m1 := K4.k1.cell 1
  have m2 := K4.k1.cell 2
  have m3 := K4.k1.cell 3
  have m4 := K4.k1.cell 4
  refine bodyPost_ret (v := .tuple #[.agg #[.int .i64 e, .slice LA n lc, .slice (some ⟨rb, ro, none⟩) n rc, .slice MA k mc, .int .i64 a], .bool false]) ?_ rfl ⟨rfl, K4.bel⟩
  simp [results, Try.results12, go_sem, m0, m1, m2, m3, m4]
set_option maxRecDepth 100000 in
set_option maxHeartbeats 1000000 in
theorem r_pin (e a : Nat) (LA RA MA : Option Addr) (n lc rc k mc : Nat) (xs : List Int) (ys : List Int) (i : Nat) (w : World) (hr : Rd w w.heap.size LA n (xs.map (.int .i64))) (hs : Rd w w.heap.size RA n (ys.map (.int .i64))) (hi : i < n) (hn : n ≤ 1048576) (hz : ig ys i = 0) (x : Int) (hx : ig xs i = x) (b1 : 0 ≤ x) (b2 : x ≤ 4611686018427387904) :
    Calls Try.prog 10 #[cV e a (.slice LA n lc) (.slice RA n rc) (.slice MA k mc), .int .i64 i] w fun en w' => (∃ g c', en = .returned (.tuple #[cV e a (.slice LA n lc) (.slice (some ⟨g, 0, none⟩) n c') (.slice MA k mc), .bool true]) ∧ w.heap.size ≤ g ∧ Rd w' w'.heap.size (some ⟨g, 0, none⟩) n ((ys.set i (x + 1)).map (.int .i64))) ∧ Below w.heap.size w w' := by
  unfold cV
  have h1 := fun w => r_has e a (.slice LA n lc) (.slice MA k mc) RA n rc i w
  rw [show (decide (0 ≤ (i : Int)) && decide ((i : Int) < n)) = true by simp; omega] at h1
  unfold cV at h1
  obtain ⟨rb, ro, rfl, hrb, hrc⟩ := hs.atI hi
  obtain ⟨lb, lo, rfl, hlb, hlc⟩ := hr.atI hi
  rw [hx] at hlc
  have t1 : (ig ys i != 0) = false := by simp [hz]
  have K0 := CB.new w #[.int .i64 e, .slice (some ⟨lb, lo, none⟩) n lc, .slice (some ⟨rb, ro, none⟩) n rc, .slice MA k mc, .int .i64 a]
  go_enter Try.func10, Try.ntmps10
  go_wp2_with fail
  refine (h1 _).mono ?_
  rintro en w1 ⟨rfl, b1⟩
  have K1 := Lib.hid (K0.below b1)
  have hrc1 := (K1.out.bel.cell (p := ⟨rb, ro + i, none⟩) hrb).trans hrc
  have hlc1 : w1.drew.cell? ⟨lb, lo + i, none⟩ = some (.int .i64 x) := (K1.out.bel.cell (p := ⟨lb, lo + i, none⟩) hlb).trans hlc
  have HSET := Lib.hid (r_set _ n rc ys i (x + 1) w1.drew (((hs.below K1.out.bel).more K1.out.bel.size).drewN 1) hi hn)
  obtain ⟨⟨z0, z1, z2, z3, z4⟩, ⟨y0, y1, y2, y3, y4⟩, ⟨u0, u1, u2, u3, u4⟩, ⟨v0, v1, v2, v3, v4⟩, f0, f1, f2, f3⟩ := K1.out.facts
  clear K0 b1 h1 hrc hrb hs hr hlc hlb hx
  go_wp2_with fail
  go_still_tail 9, (by kernel_rfl)
  change wpList _ _ _ _ _ w1.drew
  go_wp2_with fail
  refine HSET.out.mono ?_
  rintro en w2 ⟨⟨g, c', rfl, hg, hr2⟩, b2⟩
  have HG : Hid (w.heap.size + 2 ≤ g) := Nat.le_trans K1.out.lt hg
  have K2 := (K1.out.drewN 1).below b2
  have q1 := K2.k0.cell 2
  have q2 := K2.k0.frozen 2
  have HR := Lib.hid (hr2.far (Off.fresh (S := fun k => k = w.heap.size) (by have := HG.out; omega)) ((Tch.refl (fun k => k = w.heap.size) w2).setCell (g := w.heap.size) rfl 2 (.slice (some ⟨g, 0, none⟩) n c')))
  have K3 : CB w _ w.heap.size #[.int .i64 e, .slice (some ⟨lb, lo, none⟩) n lc, .slice (some ⟨g, 0, none⟩) n c', .slice MA k mc, .int .i64 a] c0s := K2.set0 2 (.slice (some ⟨g, 0, none⟩) n c')
  replace K3 := Lib.hid K3
  clear K2 hg hr2 b2 z0 z1 z2 z3 z4 y0 y1 y2 y3 y4 u0 u1 u2 u3 u4 v0 v1 v2 v3 v4 f0 f1 f2 f3
  obtain ⟨⟨z0, z1, z2, z3, z4⟩, ⟨y0, y1, y2, y3, y4⟩, ⟨u0, u1, u2, u3, u4⟩, ⟨v0, v1, v2, v3, v4⟩, f0, f1, f2, f3⟩ := K3.out.facts
  have K4 := K3.out.done (.int .i64 e) (.slice (some ⟨lb, lo, none⟩) n lc) (.slice (some ⟨g, 0, none⟩) n c') (.slice MA k mc) (.int .i64 a)
  have HR4 := Lib.hid (HR.out.far (Off.fresh (S := fun k => k = w.heap.size + 1) (by have := HG.out; omega)) (put5_tch _ (w.heap.size + 1) (.int .i64 e) (.slice (some ⟨lb, lo, none⟩) n lc) (.slice (some ⟨g, 0, none⟩) n c') (.slice MA k mc) (.int .i64 a)))
  clear K3 HR
  go_wp2
  change bodyPost _ _ _ _ _ (put5 (w2.setCell ⟨w.heap.size, 2, none⟩ (.slice (some ⟨g, 0, none⟩) n c')) (w.heap.size + 1) (.int .i64 e) (.slice (some ⟨lb, lo, none⟩) n lc) (.slice (some ⟨g, 0, none⟩) n c') (.slice MA k mc) (.int .i64 a))
  obtain ⟨wF, hF⟩ : ∃ x, put5 (w2.setCell ⟨w.heap.size, 2, none⟩ (.slice (some ⟨g, 0, none⟩) n c')) (w.heap.size + 1) (.int .i64 e) (.slice (some ⟨lb, lo, none⟩) n lc) (.slice (some ⟨g, 0, none⟩) n c') (.slice MA k mc) (.int .i64 a) = x := ⟨_, rfl⟩
  rw [hF] at K4 HR4 ⊢
  have m0 := K4.k1.cell 0
  have m1 := K4.k1.cell 1
  have m2 := K4.k1.cell 2
  have m3 := K4.k1.cell 3
  have m4 := K4.k1.cell 4
  refine bodyPost_ret (v := .tuple #[.agg #[.int .i64 e, .slice (some ⟨lb, lo, none⟩) n lc, .slice (some ⟨g, 0, none⟩) n c', .slice MA k mc, .int .i64 a], .bool true]) ?_ rfl ⟨⟨g, c', rfl, by have := HG.out; omega, HR4.out⟩, K4.bel⟩
  simp [results, Try.results10, go_sem, m0, m1, m2, m3, m4]
set_option maxRecDepth 100000 in
set_option maxHeartbeats 1000000 in
theorem r_unpin (e a : Nat) (LA RA MA : Option Addr) (n lc rc k mc : Nat) (ys : List Int) (i : Nat) (w : World) (hs : Rd w w.heap.size RA n (ys.map (.int .i64))) (hi : i < n) (hn : n ≤ 1048576) (hz : ig ys i ≠ 0) :
    Calls Try.prog 12 #[cV e a (.slice LA n lc) (.slice RA n rc) (.slice MA k mc), .int .i64 i] w fun en w' => (∃ g c', en = .returned (.tuple #[cV e a (.slice LA n lc) (.slice (some ⟨g, 0, none⟩) n c') (.slice MA k mc), .bool true]) ∧ w.heap.size ≤ g ∧ Rd w' w'.heap.size (some ⟨g, 0, none⟩) n ((ys.set i 0).map (.int .i64))) ∧ Below w.heap.size w w' := by
  unfold cV
  have h1 := fun w => r_has e a (.slice LA n lc) (.slice MA k mc) RA n rc i w
  rw [show (decide (0 ≤ (i : Int)) && decide ((i : Int) < n)) = true by simp; omega] at h1
  unfold cV at h1
  obtain ⟨rb, ro, rfl, hrb, hrc⟩ := hs.atI hi
  have t1 : (ig ys i == 0) = false := beq_false_of_ne hz
  have K0 := CB.new w #[.int .i64 e, .slice LA n lc, .slice (some ⟨rb, ro, none⟩) n rc, .slice MA k mc, .int .i64 a]
  go_enter Try.func12, Try.ntmps12
  go_wp2_with fail
  refine (h1 _).mono ?_
  rintro en w1 ⟨rfl, b1⟩
  have K1 := Lib.hid (K0.below b1)
  have hrc1 := (K1.out.bel.cell (p := ⟨rb, ro + i, none⟩) hrb).trans hrc
  have HSET := Lib.hid (r_set _ n rc ys i 0 w1 (((hs.below K1.out.bel).more K1.out.bel.size)) hi hn)
  obtain ⟨⟨z0, z1, z2, z3, z4⟩, ⟨y0, y1, y2, y3, y4⟩, ⟨u0, u1, u2, u3, u4⟩, ⟨v0, v1, v2, v3, v4⟩, f0, f1, f2, f3⟩ := K1.out.facts
  clear K0 b1 h1 hrc hrb hs
  go_wp2_with fail
  refine HSET.out.mono ?_
  rintro en w2 ⟨⟨g, c', rfl, hg, hr2⟩, b2⟩
  have HG : Hid (w.heap.size + 2 ≤ g) := Nat.le_trans K1.out.lt hg
  have K2 := K1.out.below b2
  have q1 := K2.k0.cell 2
  have q2 := K2.k0.frozen 2
  have HR := Lib.hid (hr2.far (Off.fresh (S := fun k => k = w.heap.size) (by have := HG.out; omega)) ((Tch.refl (fun k => k = w.heap.size) w2).setCell (g := w.heap.size) rfl 2 (.slice (some ⟨g, 0, none⟩) n c')))
  have K3 : CB w _ w.heap.size #[.int .i64 e, .slice LA n lc, .slice (some ⟨g, 0, none⟩) n c', .slice MA k mc, .int .i64 a] c0s := K2.set0 2 (.slice (some ⟨g, 0, none⟩) n c')
  replace K3 := Lib.hid K3
  clear K2 hg hr2 b2 z0 z1 z2 z3 z4 y0 y1 y2 y3 y4 u0 u1 u2 u3 u4 v0 v1 v2 v3 v4 f0 f1 f2 f3
  obtain ⟨⟨z0, z1, z2, z3, z4⟩, ⟨y0, y1, y2, y3, y4⟩, ⟨u0, u1, u2, u3, u4⟩, ⟨v0, v1, v2, v3, v4⟩, f0, f1, f2, f3⟩ := K3.out.facts
  have K4 := K3.out.done (.int .i64 e) (.slice LA n lc) (.slice (some ⟨g, 0, none⟩) n c') (.slice MA k mc) (.int .i64 a)
  have HR4 := Lib.hid (HR.out.far (Off.fresh (S := fun k => k = w.heap.size + 1) (by have := HG.out; omega)) (put5_tch _ (w.heap.size + 1) (.int .i64 e) (.slice LA n lc) (.slice (some ⟨g, 0, none⟩) n c') (.slice MA k mc) (.int .i64 a)))
  clear K3 HR
  go_wp2
  change bodyPost _ _ _ _ _ (put5 (w2.setCell ⟨w.heap.size, 2, none⟩ (.slice (some ⟨g, 0, none⟩) n c')) (w.heap.size + 1) (.int .i64 e) (.slice LA n lc) (.slice (some ⟨g, 0, none⟩) n c') (.slice MA k mc) (.int .i64 a))
  obtain ⟨wF, hF⟩ : ∃ x, put5 (w2.setCell ⟨w.heap.size, 2, none⟩ (.slice (some ⟨g, 0, none⟩) n c')) (w.heap.size + 1) (.int .i64 e) (.slice LA n lc) (.slice (some ⟨g, 0, none⟩) n c') (.slice MA k mc) (.int .i64 a) = x := ⟨_, rfl⟩
  rw [hF] at K4 HR4 ⊢
  have m0 := K4.k1.cell 0
  have m1 := K4.k1.cell 1
  have m2 := K4.k1.cell 2
  have m3 := K4.k1.cell 3
  have m4 := K4.k1.cell 4
  refine bodyPost_ret (v := .tuple #[.agg #[.int .i64 e, .slice LA n lc, .slice (some ⟨g, 0, none⟩) n c', .slice MA k mc, .int .i64 a], .bool true]) ?_ rfl ⟨⟨g, c', rfl, by have := HG.out; omega, HR4.out⟩, K4.bel⟩
  simp [results, Try.results12, go_sem, m0, m1, m2, m3, m4]
end Go.Proofs.Ytcpgapnikgchaaa
