/- The document's clock: New, Free, Same. -/
import Derived.Test.YtcpgapnikgchaaaEpZ
import Derived.Test.YtcpgapnikgchaaaPerm
namespace Go.Proofs.Ytcpgapnikgchaaa
open Go.RowKit
/-- Whether two lists of pairs are one. -/
def same2 (xs ys : List Int) : Bool := decide (xs = ys)
theorem ext2 {xs ys : List Int} {n : Nat} (h1 : xs.length = n * 2) (h2 : ys.length = n * 2) (h : ∀ j, j < n → ig xs (j * 2) = ig ys (j * 2) ∧ ig xs (j * 2 + 1) = ig ys (j * 2 + 1)) : xs = ys := by
  refine ext_getD (h1.trans h2.symm) fun k hk => ?_
  have := h (k / 2) (by omega)
  have hm : k % 2 = 0 ∨ k % 2 = 1 := by omega
  rcases hm with hm | hm
  · rw [show k = k / 2 * 2 by omega]; exact this.1
  · rw [show k = k / 2 * 2 + 1 by omega]; exact this.2
set_option maxRecDepth 100000 in
set_option maxHeartbeats 1000000 in
theorem r_same (A B : Option Addr) (n m c d : Nat) (xs ys : List Int) (w : World) (hx : Rd2 w w.heap.size A n xs) (hy : Rd2 w w.heap.size B m ys) (hn : n ≤ 1048576) :
    Calls Try.prog 24 #[.slice A n c, .slice B m d] w fun e w' => e = .returned (.bool (same2 xs ys)) ∧ ∃ q, w' = w.drewN q := by
  by_cases hl : n = m
  · subst hl
    have HX := Lib.hid hx
    have HY := Lib.hid hy
    clear hx hy
    go_enter Try.func24, Try.ntmps24
    go_wp2
    go_loopw [13] (fun i wr => ∃ k : Nat, k ≤ n ∧ i = .int .i64 k ∧ (∃ q, wr = w.drewN q) ∧ Hid (∀ j, j < k → ig xs (j * 2) = ig ys (j * 2) ∧ ig xs (j * 2 + 1) = ig ys (j * 2 + 1))) (fun i _ => n - (intOf i).toNat)
    case atStart => exact ⟨0, Nat.zero_le _, rfl, ⟨0, rfl⟩, (show ∀ j, j < 0 → _ from fun j hj => absurd hj (by omega))⟩
    case round =>
      obtain ⟨k, hk, rfl, ⟨q, rfl⟩, hv⟩ := hrel
      by_cases hlt : k < n
      · obtain ⟨b, o, rfl, hb, hc0, hc1⟩ := HX.out.at_ hlt
        obtain ⟨b', o', rfl, hb', hd0, hd1⟩ := HY.out.at_ hlt
        obtain ⟨x0, e0⟩ : ∃ x, ig xs (k * 2) = x := ⟨_, rfl⟩
        obtain ⟨x1, e1⟩ : ∃ x, ig xs (k * 2 + 1) = x := ⟨_, rfl⟩
        obtain ⟨y0, e2⟩ : ∃ x, ig ys (k * 2) = x := ⟨_, rfl⟩
        obtain ⟨y1, e3⟩ : ∃ x, ig ys (k * 2 + 1) = x := ⟨_, rfl⟩
        rw [e0] at hc0
        rw [e1] at hc1
        rw [e2] at hd0
        rw [e3] at hd1
        have HE : Hid (ig xs (k * 2) = x0 ∧ ig xs (k * 2 + 1) = x1 ∧ ig ys (k * 2) = y0 ∧ ig ys (k * 2 + 1) = y1) := ⟨e0, e1, e2, e3⟩
        clear e0 e1 e2 e3
        by_cases h0 : x0 = y0
        · have t0 : (x0 == y0) = true := beq_iff_eq.2 h0
          by_cases h1 : x1 = y1
          · have t1 : (x1 == y1) = true := beq_iff_eq.2 h1
            have HX' : Hid (x0 = y0 ∧ x1 = y1) := ⟨h0, h1⟩
            clear h0 h1
            go_wp2
            go_quiet (fail)
            go_wp2
            go_roundw
            case rel => exact ⟨k + 1, by omega, by go_num, ⟨_, rfl⟩, fun j hj => by
              rcases Nat.lt_or_ge j k with h | h
              · exact hv.out j h
              · obtain rfl : j = k := by omega
                obtain ⟨g1, g2, g3, g4⟩ := HE.out
                rw [g1, g2, g3, g4]
                exact HX'.out⟩
            case measure => simp [intOf]; omega
          · have t1 : (x1 == y1) = false := beq_false_of_ne h1
            have HN : Hid (xs ≠ ys) := fun e => h1 (by obtain ⟨g1, g2, g3, g4⟩ := HE.out; rw [← g2, ← g4, e])
            clear h0 h1
            go_wp2
            go_quiet (fail)
            go_wp2
            go_ret
            exact ⟨ret_bool (decide_eq_false HN.out).symm, ⟨_, World.drewN_drewN ..⟩⟩
        · have t0 : (x0 == y0) = false := beq_false_of_ne h0
          have HN : Hid (xs ≠ ys) := fun e => h0 (by obtain ⟨g1, g2, g3, g4⟩ := HE.out; rw [← g1, ← g3, e])
          clear h0
          go_wp2
          go_quiet (fail)
          go_wp2
          go_ret
          exact ⟨ret_bool (decide_eq_false HN.out).symm, ⟨_, World.drewN_drewN ..⟩⟩
      · obtain rfl : k = n := by omega
        go_wp2
        go_ret
        exact ⟨ret_bool (decide_eq_true (ext2 HX.out.1 HY.out.1 hv.out)).symm, ⟨_, rfl⟩⟩
  · have hne : ((n : Int) != m) = true := by simp; omega
    have HN : Hid (xs ≠ ys) := fun e => hl (by have := hx.1; have := hy.1; rw [e] at *; omega)
    clear hx hy hl
    go_enter Try.func24, Try.ntmps24
    go_wp2
    go_ret
    exact ⟨ret_bool (decide_eq_false HN.out).symm, ⟨0, rfl⟩⟩
/-- Two lists of n zeros. -/
theorem make_ints (kl kc : IntKind) (n : Nat) (hn : n ≤ 64) (w : World) :
    (Instr.makeSlice 28 (.int kl (n : Int)) (.int kc (n : Int))).run Try.prog w = .ok (.slice (some ⟨w.heap.size, 0, none⟩) n n) (w.alloc (.cells (madeCells #[.int .i64 0] n) 3)) := by
  have h : (Try.prog.info? 3).map (fun i => (i.zero.map Value.cells, i.size, i.bytes)) = some (some #[.int .i64 0], 1, 8) := by kernel_rfl
  obtain ⟨i, hi, hzz⟩ := Option.map_eq_some_iff.1 h
  simp only [Prod.mk.injEq] at hzz
  obtain ⟨hz, hs, hb⟩ := hzz
  obtain ⟨z, hz1, hz2⟩ := Option.map_eq_some_iff.1 hz
  have hr := run_make (P := Try.prog) w 28 3 i z Try.underlying28 hi hz1 kl kc n n (by omega) (Int.le_refl _) (by rw [hb]; omega) (by omega)
  simp only [Int.toNat_natCast, hs, hz2, Nat.mul_one] at hr
  exact hr
set_option maxRecDepth 100000 in
set_option maxHeartbeats 1000000 in
theorem r_new (n : Nat) (h1 : 1 ≤ n) (h2 : n ≤ 64) (w : World) :
    Calls Try.prog 7 #[.int .i64 n] w fun en w' => (∃ g1 g2, en = .returned (.tuple #[cV 0 0 (.slice (some ⟨g1, 0, none⟩) n n) (.slice (some ⟨g2, 0, none⟩) n n) (.slice none 0 0), .int .i64 0]) ∧ w.heap.size ≤ g1 ∧ w.heap.size ≤ g2 ∧ Rd w' w'.heap.size (some ⟨g1, 0, none⟩) n ((List.replicate n 0).map (.int .i64)) ∧ Rd w' w'.heap.size (some ⟨g2, 0, none⟩) n ((List.replicate n 0).map (.int .i64))) ∧ Below w.heap.size w w' := by
  unfold cV
  have hmk := fun (kl kc : IntKind) w => make_ints kl kc n h2 w
  have t1 : decide ((n : Int) < 1) = false := by simp; omega
  have t2 : decide ((n : Int) > 64) = false := by simp; omega
  go_enter Try.func7, Try.ntmps7
  go_wp2
  obtain ⟨w1, hw1⟩ : ∃ x, w.alloc (.cells #[.int .i64 0, .slice none 0 0, .slice none 0 0, .slice none 0 0, .int .i64 0] 31) = x := ⟨_, rfl⟩
  have K0 := Blk.new w 31 #[.int .i64 0, .slice none 0 0, .slice none 0 0, .slice none 0 0, .int .i64 0]
  have B0 : Below w.heap.size w (w.alloc (.cells #[.int .i64 0, .slice none 0 0, .slice none 0 0, .slice none 0 0, .int .i64 0] 31)) := (Below.refl _ w).alloc (Nat.le_refl _) _
  have e1 : (w.alloc (.cells #[.int .i64 0, .slice none 0 0, .slice none 0 0, .slice none 0 0, .int .i64 0] 31)).heap.size = w.heap.size + 1 := by simp only [World.alloc, Array.size_push]
  rw [hw1] at K0 B0 e1 ⊢
  clear hw1
  have e2' : (w1.alloc (.cells (madeCells #[.int .i64 0] n) 3)).heap.size = w1.heap.size + 1 := by simp only [World.alloc, Array.size_push]
  have e2 : (w1.alloc (.cells (madeCells #[.int .i64 0] n) 3)).heap.size = w.heap.size + 2 := by simp only [World.alloc, Array.size_push]; omega
  obtain ⟨w2, hw2⟩ : ∃ x, w1.alloc (.cells (madeCells #[.int .i64 0] n) 3) = x := ⟨_, rfl⟩
  have R1 := (IB.made w1 3 n .i64).rd
  rw [List.length_replicate] at R1
  have B1 : Below (w.heap.size + 1) w1 (w1.alloc (.cells (madeCells #[.int .i64 0] n) 3)) := (Below.refl _ w1).alloc (by omega) _
  have K1 := K0.alloc (.cells (madeCells #[.int .i64 0] n) 3)
  rw [hw2] at e2 e2' R1 B1 K1
  have e3 : (w2.alloc (.cells (madeCells #[.int .i64 0] n) 3)).heap.size = w.heap.size + 3 := by simp only [World.alloc, Array.size_push]; omega
  have R2 := (IB.made w2 3 n .i64).rd
  rw [e2', List.length_replicate] at R2
  have hb2 : Below w2.heap.size w2 (w2.alloc (.cells (madeCells #[.int .i64 0] n) 3)) := (Below.refl _ w2).alloc (Nat.le_refl _) _
  have B2 := B1.trans (hb2.mono (by omega))
  have R1' := (R1.below hb2).more hb2.size
  have K2 := K1.alloc (.cells (madeCells #[.int .i64 0] n) 3)
  rw [← hw2] at e3 R2 R1' B2 K2
  have u0 := K2.cell 0
  have u1 := K2.cell 1
  have u2 := K2.cell 2
  have u3 := K2.cell 3
  have u4 := K2.cell 4
  have v0 : ((w1.alloc (.cells (madeCells #[.int .i64 0] n) 3)).alloc (.cells (madeCells #[.int .i64 0] n) 3)).drew.cell? ⟨w.heap.size, 0, none⟩ = some (.int .i64 0) := u0
  have v1 : ((w1.alloc (.cells (madeCells #[.int .i64 0] n) 3)).alloc (.cells (madeCells #[.int .i64 0] n) 3)).drew.cell? ⟨w.heap.size, 1, none⟩ = some (.slice none 0 0) := u1
  have v2 : ((w1.alloc (.cells (madeCells #[.int .i64 0] n) 3)).alloc (.cells (madeCells #[.int .i64 0] n) 3)).drew.cell? ⟨w.heap.size, 2, none⟩ = some (.slice none 0 0) := u2
  have v3 : ((w1.alloc (.cells (madeCells #[.int .i64 0] n) 3)).alloc (.cells (madeCells #[.int .i64 0] n) 3)).drew.cell? ⟨w.heap.size, 3, none⟩ = some (.slice none 0 0) := u3
  have v4 : ((w1.alloc (.cells (madeCells #[.int .i64 0] n) 3)).alloc (.cells (madeCells #[.int .i64 0] n) 3)).drew.cell? ⟨w.heap.size, 4, none⟩ = some (.int .i64 0) := u4
  have f := K2.frozen
  have f' : ∀ i, ((w1.alloc (.cells (madeCells #[.int .i64 0] n) 3)).alloc (.cells (madeCells #[.int .i64 0] n) 3)).drew.frozen? ⟨w.heap.size, i, none⟩ = false := f
  replace R1 := Lib.hid R1'
  replace R2 := Lib.hid R2
  replace B2 := Lib.hid (B0.trans (B2.mono (Nat.le_succ _)))
  replace K2 := Lib.hid K2
  have E1 := Lib.hid e1
  clear R1' K0 K1 hb2 e3 hw2 e2 e2' e1 B0 B1
  have hend : ∀ (g1 g2 : Nat), w.heap.size < g1 → w.heap.size < g2 → Rd ((w1.alloc (.cells (madeCells #[.int .i64 0] n) 3)).alloc (.cells (madeCells #[.int .i64 0] n) 3)) ((w1.alloc (.cells (madeCells #[.int .i64 0] n) 3)).alloc (.cells (madeCells #[.int .i64 0] n) 3)).heap.size (some ⟨g1, 0, none⟩) n ((List.replicate n 0).map (.int .i64)) → Rd ((w1.alloc (.cells (madeCells #[.int .i64 0] n) 3)).alloc (.cells (madeCells #[.int .i64 0] n) 3)) ((w1.alloc (.cells (madeCells #[.int .i64 0] n) 3)).alloc (.cells (madeCells #[.int .i64 0] n) 3)).heap.size (some ⟨g2, 0, none⟩) n ((List.replicate n 0).map (.int .i64)) →
      ∃ wF, wF = (((((((w1.alloc (.cells (madeCells #[.int .i64 0] n) 3)).alloc (.cells (madeCells #[.int .i64 0] n) 3)).setCell ⟨w.heap.size, 0, none⟩ (.int .i64 0)).setCell ⟨w.heap.size, 1, none⟩ (.slice (some ⟨g1, 0, none⟩) n n)).setCell ⟨w.heap.size, 2, none⟩ (.slice (some ⟨g2, 0, none⟩) n n)).setCell ⟨w.heap.size, 3, none⟩ (.slice none 0 0)).setCell ⟨w.heap.size, 4, none⟩ (.int .i64 0)).drew ∧ Blk wF w.heap.size 31 #[.int .i64 0, .slice (some ⟨g1, 0, none⟩) n n, .slice (some ⟨g2, 0, none⟩) n n, .slice none 0 0, .int .i64 0] ∧
        w.heap.size ≤ g1 ∧ w.heap.size ≤ g2 ∧ Rd wF wF.heap.size (some ⟨g1, 0, none⟩) n ((List.replicate n 0).map (.int .i64)) ∧ Rd wF wF.heap.size (some ⟨g2, 0, none⟩) n ((List.replicate n 0).map (.int .i64)) ∧ Below w.heap.size w wF := by
    intro g1 g2 l1 l2 q1 q2
    have ht := (put5_tch ((w1.alloc (.cells (madeCells #[.int .i64 0] n) 3)).alloc (.cells (madeCells #[.int .i64 0] n) 3)) w.heap.size (.int .i64 0) (.slice (some ⟨g1, 0, none⟩) n n) (.slice (some ⟨g2, 0, none⟩) n n) (.slice none 0 0) (.int .i64 0)).drewN 1
    exact ⟨_, rfl, (((((K2.out.set_ 0 (.int .i64 0)).set_ 1 (.slice (some ⟨g1, 0, none⟩) n n)).set_ 2 (.slice (some ⟨g2, 0, none⟩) n n)).set_ 3 (.slice none 0 0)).set_ 4 (.int .i64 0)).drewN 1, by omega, by omega,
      q1.far (Off.fresh (S := fun k => k = w.heap.size) (by omega)) ht, q2.far (Off.fresh (S := fun k => k = w.heap.size) (by omega)) ht, B2.out.trans (ht.below B2.out.size (fun k hk => Nat.le_of_eq hk.symm))⟩
  have E12 := Lib.hid (hend w1.heap.size (w1.heap.size + 1) (by have := E1.out; omega) (by have := E1.out; omega) R1.out R2.out)
  have E21 := Lib.hid (hend (w1.heap.size + 1) w1.heap.size (by have := E1.out; omega) (by have := E1.out; omega) R2.out R1.out)
  clear hend
  go_region_law (fail)
  all_goals
    clear u0 u1 u2 u3 u4 v0 v1 v2 v3 v4 f f' B2 K2 R1 R2
    go_wp2
    first
      | (obtain ⟨wF, hF, hc, g1, g2, q1, q2, q3⟩ := E12.out
         rw [← hF]
         have m0 := hc.cell 0
         have m1 := hc.cell 1
         have m2 := hc.cell 2
         have m3 := hc.cell 3
         have m4 := hc.cell 4
         refine bodyPost_ret (v := .tuple #[.agg #[.int .i64 0, .slice (some ⟨w1.heap.size, 0, none⟩) n n, .slice (some ⟨w1.heap.size + 1, 0, none⟩) n n, .slice none 0 0, .int .i64 0], .int .i64 0]) ?_ rfl ⟨⟨_, _, rfl, g1, g2, q1, q2⟩, q3⟩
         simp [results, Try.results7, go_sem, Act.put, m0, m1, m2, m3, m4])
      | (obtain ⟨wF, hF, hc, g1, g2, q1, q2, q3⟩ := E21.out
         rw [← hF]
         have m0 := hc.cell 0
         have m1 := hc.cell 1
         have m2 := hc.cell 2
         have m3 := hc.cell 3
         have m4 := hc.cell 4
         refine bodyPost_ret (v := .tuple #[.agg #[.int .i64 0, .slice (some ⟨w1.heap.size + 1, 0, none⟩) n n, .slice (some ⟨w1.heap.size, 0, none⟩) n n, .slice none 0 0, .int .i64 0], .int .i64 0]) ?_ rfl ⟨⟨_, _, rfl, g1, g2, q1, q2⟩, q3⟩
         simp [results, Try.results7, go_sem, Act.put, m0, m1, m2, m3, m4])
set_option maxRecDepth 100000 in
theorem r_new_not (n : Int) (hn : n < 1 ∨ 64 < n) (w : World) :
    Calls Try.prog 7 #[.int .i64 n] w fun en w' => en = .returned (.tuple #[cV 0 0 (.slice none 0 0) (.slice none 0 0) (.slice none 0 0), .int .i64 6]) ∧ Below w.heap.size w w' := by
  unfold cV
  have HB : Hid (Below w.heap.size w (w.alloc (.cells #[.int .i64 0, .slice none 0 0, .slice none 0 0, .slice none 0 0, .int .i64 0] 31))) := (Below.refl _ w).alloc (Nat.le_refl _) _
  by_cases h1 : n < 1
  · have t1 : decide (n < 1) = true := by simpa using h1
    clear h1 hn
    go_enter Try.func7, Try.ntmps7
    go_wp2
    refine bodyPost_ret (v := .tuple #[.agg #[.int .i64 0, .slice none 0 0, .slice none 0 0, .slice none 0 0, .int .i64 0], .int .i64 6]) (by simp [results, Try.results7, go_sem]) rfl ⟨rfl, HB.out⟩
  · have t1 : decide (n < 1) = false := by simpa using h1
    have t2 : decide (n > 64) = true := by simp; omega
    clear h1 hn
    go_enter Try.func7, Try.ntmps7
    go_wp2
    refine bodyPost_ret (v := .tuple #[.agg #[.int .i64 0, .slice none 0 0, .slice none 0 0, .slice none 0 0, .int .i64 0], .int .i64 6]) (by simp [results, Try.results7, go_sem]) rfl ⟨rfl, HB.out⟩
end Go.Proofs.Ytcpgapnikgchaaa
