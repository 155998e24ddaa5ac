/- The document's reader: take, list. Merged of ImO ImR. -/
import Derived.Test.YtbpcddimnbjoeaaImLN
import Derived.Test.YtbpcddimnbjoeaaLitNX
namespace Go.Proofs.Ytbpcddimnbjoeaa
open Go.RowKit
/-- The document's reader. -/
def IvS (v : Array Value) (s : RS) : Prop := ∃ (l : List Int) (wy : Int), v = #[.string (strOfNums l), .int .i64 wy, .int .i64 s.e] ∧ (s.e = 0 → l = s.l ∧ wy = 0) ∧ Bytes l ∧ l.length ≤ 1000000
def RetI2 (s : RS) (n : Nat) (w : World) (e : Ending) (w' : World) : Prop := ∃ v, e = .returned (.tuple #[.agg v, .int .u64 n]) ∧ IvS v s ∧ Below w.heap.size w w'
theorem tyI : (Try.prog.info? 73).map (·.size) = some 3 := by kernel_rfl
set_option maxRecDepth 100000 in
set_option maxHeartbeats 8000000 in
theorem rf_take {v : Array Value} {s : RS} (h : IvS v s) (lo hi : Nat) (w : World) :
    Calls Try.prog 30 #[.agg v, .int .u64 lo, .int .u64 hi] w (RetI2 (takeR s lo hi).1 (takeR s lo hi).2 w) := by
  obtain ⟨l, wy, rfl, h0, hb, hl⟩ := h
  obtain ⟨w1, hw1⟩ : ∃ x, w.alloc (.cells #[.string (strOfNums l), .int .i64 wy, .int .i64 s.e] 73) = x := ⟨_, rfl⟩
  have hb1 : Below w.heap.size w w1 := by rw [← hw1]; exact (Below.refl _ w).alloc (Nat.le_refl _) _
  have k1 : Blk w1 w.heap.size 73 #[.string (strOfNums l), .int .i64 wy, .int .i64 s.e] := by rw [← hw1]; exact Blk.new _ _ _
  by_cases he : s.e = 0
  · obtain ⟨rfl, rfl⟩ := h0 he
    rw [he] at hw1 k1 ⊢
    obtain ⟨w2, hw2⟩ : ∃ x, w1.alloc (.cells #[.string ⟨#[]⟩, .int .i64 0, .int .i64 0] 73) = x := ⟨_, rfl⟩
    have hb2 : Below w1.heap.size w1 w2 := by rw [← hw2]; exact (Below.refl _ w1).alloc (Nat.le_refl _) _
    have k2 : Blk w2 w1.heap.size 73 #[.string ⟨#[]⟩, .int .i64 0, .int .i64 0] := by rw [← hw2]; exact Blk.new _ _ _
    have kg := k1.below hb2 k1.lt
    have hlt1 := k1.lt
    have hbw : Below w.heap.size w w2 := hb1.trans (hb2.mono hb1.size)
    have HT : Hid (takeR s lo hi = if (numOf s.l).2.2 = 0 then if (numOf s.l).1 < lo ∨ hi < (numOf s.l).1 then (⟨s.l.drop (numOf s.l).2.1, 6⟩, 0) else (⟨s.l.drop (numOf s.l).2.1, 0⟩, (numOf s.l).1) else (⟨s.l.drop (numOf s.l).2.1, ((numOf s.l).2.2 : Nat)⟩, 0)) := by show _ = _; unfold takeR; rw [if_pos he]
    have hb2' := (numFrom_bd s.l 0 0).2
    rcases hno : numOf s.l with ⟨n, sz, wy⟩
    rw [hno] at HT
    rw [show numFrom s.l 0 0 = (n, sz, wy) from hno] at hb2'
    dsimp only at HT hb2'
    have HN := Lib.hid (fun W => ref_next s.l hb (by omega) W)
    rw [hno] at HN
    have HBY : Hid (Bytes (s.l.drop sz) ∧ (s.l.drop sz).length ≤ 1000000) := ⟨hb.drop sz, by rw [List.length_drop]; omega⟩
    obtain ⟨m, hm⟩ : ∃ m, s.l.drop sz = m := ⟨_, rfl⟩
    rw [hm] at HT HBY
    dsimp only at HN
    rw [hm] at HN
    have HKG := Lib.hid kg
    have HK2 := Lib.hid k2
    have HBW := Lib.hid hbw
    have HLT := Lib.hid hlt1
    clear h0 hb hl k1 hb1 kg k2 hbw hb2 he hno hm
    obtain ⟨R, hR⟩ : ∃ x, w1.heap.size = x := ⟨_, rfl⟩
    rw [hR] at HK2 HLT
    by_cases hwy : wy = 0
    · subst hwy
      rw [if_pos rfl] at HT
      by_cases hr : n < lo ∨ hi < n
      · rw [if_pos hr] at HT
        by_cases hlo : n < lo
        · have hr' := hr
          have ha : (n : Int) < lo := by omega
          clear hr hlo hr'
          go_enter Try.func30, Try.ntmps30
          go_upto_region 1 with fail
          (try rw [hw1])
          (try rw [hw2])
          (try rw [hR])
          clear hw1 hw2 hR
          have c0 : w2.cell? ⟨w.heap.size, 0, none⟩ = some (.string (strOfNums s.l)) := HKG.out.cell 0
          have c1 : w2.cell? ⟨w.heap.size, 1, none⟩ = some (.int .i64 0) := HKG.out.cell 1
          have c2 : w2.cell? ⟨w.heap.size, 2, none⟩ = some (.int .i64 0) := HKG.out.cell 2
          go_upto_region 4 with (go_at_call 53; (with_reducible refine (HN.out _).mono ?_); rintro e w3 ⟨rfl, hb3⟩; have HB3 := Lib.hid hb3; clear hb3 c0 c1 c2; have HKG3 : Hid (Blk w3 w.heap.size 73 #[.string (strOfNums s.l), .int .i64 0, .int .i64 0]) := HKG.out.below HB3.out HKG.out.lt; have HK3 := Lib.hid (HK2.out.below HB3.out HK2.out.lt); have c0 : w3.cell? ⟨w.heap.size, 0, none⟩ = some (.string (strOfNums s.l)) := HKG3.out.cell 0; have c1 : w3.cell? ⟨w.heap.size, 1, none⟩ = some (.int .i64 0) := HKG3.out.cell 1; have c2 : w3.cell? ⟨w.heap.size, 2, none⟩ = some (.int .i64 0) := HKG3.out.cell 2)
          obtain ⟨w4, hw4⟩ : ∃ x, w3.alloc (.cells #[.string (strOfNums m), .int .i64 0] 71) = x := ⟨_, rfl⟩
          have hb4 : Below w3.heap.size w3 w4 := by rw [← hw4]; exact (Below.refl _ w3).alloc (Nat.le_refl _) _
          have k4 : Blk w4 w3.heap.size 71 #[.string (strOfNums m), .int .i64 0] := by rw [← hw4]; exact Blk.new _ _ _
          have HKG4 := Lib.hid (HKG3.out.below hb4 HKG3.out.lt)
          have HKR4 := Lib.hid (HK3.out.below hb4 HK3.out.lt)
          have HB4 : Hid (Below w.heap.size w w4) := (HBW.out.trans (HB3.out.mono HBW.out.size)).trans (hb4.mono (by have := HBW.out.size; have := HB3.out.size; omega))
          have hR3 : R ≠ w3.heap.size := by have := HK3.out.lt; omega
          have hG3 : w.heap.size ≠ w3.heap.size := by have := HKG3.out.lt; omega
          obtain ⟨T, hT⟩ : ∃ x, w3.heap.size = x := ⟨_, rfl⟩
          have hRG : w.heap.size ≠ R := by have := HLT.out; omega
          rw [hT] at k4 hR3 hG3
          rw [hw4, hT]
          clear hw4 hb4 hT c0 c1 c2 HKG3 HK3
          have c0 : w4.cell? ⟨w.heap.size, 0, none⟩ = some (.string (strOfNums s.l)) := HKG4.out.cell 0
          have c1 : w4.cell? ⟨w.heap.size, 1, none⟩ = some (.int .i64 0) := HKG4.out.cell 1
          have c2 : w4.cell? ⟨w.heap.size, 2, none⟩ = some (.int .i64 0) := HKG4.out.cell 2
          have f0 := HKG4.out.frozen 0
          have f1 := HKG4.out.frozen 1
          have f2 := HKG4.out.frozen 2
          have d0 : w4.cell? ⟨R, 0, none⟩ = some (.string ⟨#[]⟩) := HKR4.out.cell 0
          have d1 : w4.cell? ⟨R, 1, none⟩ = some (.int .i64 0) := HKR4.out.cell 1
          have d2 : w4.cell? ⟨R, 2, none⟩ = some (.int .i64 0) := HKR4.out.cell 2
          have g0 := HKR4.out.frozen 0
          have g1 := HKR4.out.frozen 1
          have g2 := HKR4.out.frozen 2
          have t0 : w4.cell? ⟨T, 0, none⟩ = some (.string (strOfNums m)) := k4.cell 0
          have t1 : w4.cell? ⟨T, 1, none⟩ = some (.int .i64 0) := k4.cell 1
          clear k4
          go_upto_region 6 with fail
          obtain ⟨w5, hw5⟩ : ∃ x, (((w4.setCell ⟨w.heap.size, 0, none⟩ (.string (strOfNums m))).setCell ⟨w.heap.size, 1, none⟩ (.int .i64 0)).setCell ⟨w.heap.size, 2, none⟩ (.int .i64 0)) = x := ⟨_, rfl⟩
          have HKG5 : Hid (Blk w5 w.heap.size 73 #[.string (strOfNums m), .int .i64 0, .int .i64 0]) := by show Blk _ _ _ _; rw [← hw5]; simpa using (((HKG4.out.set_ 0 (.string (strOfNums m))).set_ 1 (.int .i64 0)).set_ 2 (.int .i64 0))
          have HKR5 : Hid (Blk w5 R 73 #[.string ⟨#[]⟩, .int .i64 0, .int .i64 0]) := by show Blk _ _ _ _; rw [← hw5]; exact (((HKR4.out.far (fun e => hRG e.symm) _).far (fun e => hRG e.symm) _).far (fun e => hRG e.symm) _)
          have HB5 : Hid (Below w.heap.size w w5) := by show Below _ _ _; rw [← hw5]; exact (((HB4.out.setCell (p := ⟨w.heap.size, 0, none⟩) (Nat.le_refl _) _).setCell (p := ⟨w.heap.size, 1, none⟩) (Nat.le_refl _) _).setCell (p := ⟨w.heap.size, 2, none⟩) (Nat.le_refl _) _)
          rw [hw5]
          clear hw5 HKG4 HKR4 HB4
          clear c0 c1 c2 f0 f1 f2 d0 d1 d2 g0 g1 g2
          have c0 : w5.cell? ⟨w.heap.size, 0, none⟩ = some (.string (strOfNums m)) := HKG5.out.cell 0
          have c1 : w5.cell? ⟨w.heap.size, 1, none⟩ = some (.int .i64 0) := HKG5.out.cell 1
          have c2 : w5.cell? ⟨w.heap.size, 2, none⟩ = some (.int .i64 0) := HKG5.out.cell 2
          have f0 := HKG5.out.frozen 0
          have f1 := HKG5.out.frozen 1
          have f2 := HKG5.out.frozen 2
          have d0 : w5.cell? ⟨R, 0, none⟩ = some (.string ⟨#[]⟩) := HKR5.out.cell 0
          have d1 : w5.cell? ⟨R, 1, none⟩ = some (.int .i64 0) := HKR5.out.cell 1
          have d2 : w5.cell? ⟨R, 2, none⟩ = some (.int .i64 0) := HKR5.out.cell 2
          have g0 := HKR5.out.frozen 0
          have g1 := HKR5.out.frozen 1
          have g2 := HKR5.out.frozen 2
          go_upto_region 8 with fail
          obtain ⟨w6, hw6⟩ : ∃ x, (w5.setCell ⟨w.heap.size, 2, none⟩ (.int .i64 6)) = x := ⟨_, rfl⟩
          have HKG6 : Hid (Blk w6 w.heap.size 73 #[.string (strOfNums m), .int .i64 0, .int .i64 6]) := by show Blk _ _ _ _; rw [← hw6]; simpa using (HKG5.out.set_ 2 (.int .i64 6))
          have HKR6 : Hid (Blk w6 R 73 #[.string ⟨#[]⟩, .int .i64 0, .int .i64 0]) := by show Blk _ _ _ _; rw [← hw6]; exact (HKR5.out.far (fun e => hRG e.symm) _)
          have HB6 : Hid (Below w.heap.size w w6) := by show Below _ _ _; rw [← hw6]; exact (HB5.out.setCell (p := ⟨w.heap.size, 2, none⟩) (Nat.le_refl _) _)
          rw [hw6]
          clear hw6 HKG5 HKR5 HB5
          clear c0 c1 c2 f0 f1 f2 d0 d1 d2 g0 g1 g2
          have c0 : w6.cell? ⟨w.heap.size, 0, none⟩ = some (.string (strOfNums m)) := HKG6.out.cell 0
          have c1 : w6.cell? ⟨w.heap.size, 1, none⟩ = some (.int .i64 0) := HKG6.out.cell 1
          have c2 : w6.cell? ⟨w.heap.size, 2, none⟩ = some (.int .i64 6) := HKG6.out.cell 2
          have f0 := HKG6.out.frozen 0
          have f1 := HKG6.out.frozen 1
          have f2 := HKG6.out.frozen 2
          have d0 : w6.cell? ⟨R, 0, none⟩ = some (.string ⟨#[]⟩) := HKR6.out.cell 0
          have d1 : w6.cell? ⟨R, 1, none⟩ = some (.int .i64 0) := HKR6.out.cell 1
          have d2 : w6.cell? ⟨R, 2, none⟩ = some (.int .i64 0) := HKR6.out.cell 2
          have g0 := HKR6.out.frozen 0
          have g1 := HKR6.out.frozen 1
          have g2 := HKR6.out.frozen 2
          go_wp2
          have hlt := HLT.out
          have HKF : Blk (((w6.setCell ⟨R, 0, none⟩ (.string (strOfNums m))).setCell ⟨R, 1, none⟩ (.int .i64 0)).setCell ⟨R, 2, none⟩ (.int .i64 6)) R 73 #[.string (strOfNums m), .int .i64 0, .int .i64 6] := by
            simpa using (((HKR6.out.set_ 0 (.string (strOfNums m))).set_ 1 (.int .i64 0)).set_ 2 (.int .i64 6))
          refine bodyPost_ret (v := .tuple #[.agg #[.string (strOfNums m), .int .i64 0, .int .i64 6], .int .u64 0]) (results_row11 Try.results30 _ rfl HKF Try.underlying73 rfl tyI) rfl ⟨_, by first | (rw [HT.out]; done) | (rw [HT.out]; rfl), by rw [HT.out]; exact ⟨m, 0, rfl, fun e => by first | exact ⟨rfl, rfl⟩ | (exfalso; simp at e; done) | (exfalso; simp at e; omega), HBY.out⟩, ?_⟩
          exact (((HB6.out.setCell (p := ⟨R, 0, none⟩) (Nat.le_of_lt hlt) _).setCell (p := ⟨R, 1, none⟩) (Nat.le_of_lt hlt) _).setCell (p := ⟨R, 2, none⟩) (Nat.le_of_lt hlt) _)
        · have hr' := hr
          have ha : ¬ (n : Int) < lo := by omega
          have hc : (hi : Int) < n := by omega
          clear hr hlo hr'
          go_enter Try.func30, Try.ntmps30
          go_upto_region 1 with fail
          (try rw [hw1])
          (try rw [hw2])
          (try rw [hR])
          clear hw1 hw2 hR
          have c0 : w2.cell? ⟨w.heap.size, 0, none⟩ = some (.string (strOfNums s.l)) := HKG.out.cell 0
          have c1 : w2.cell? ⟨w.heap.size, 1, none⟩ = some (.int .i64 0) := HKG.out.cell 1
          have c2 : w2.cell? ⟨w.heap.size, 2, none⟩ = some (.int .i64 0) := HKG.out.cell 2
          go_upto_region 4 with (go_at_call 53; (with_reducible refine (HN.out _).mono ?_); rintro e w3 ⟨rfl, hb3⟩; have HB3 := Lib.hid hb3; clear hb3 c0 c1 c2; have HKG3 : Hid (Blk w3 w.heap.size 73 #[.string (strOfNums s.l), .int .i64 0, .int .i64 0]) := HKG.out.below HB3.out HKG.out.lt; have HK3 := Lib.hid (HK2.out.below HB3.out HK2.out.lt); have c0 : w3.cell? ⟨w.heap.size, 0, none⟩ = some (.string (strOfNums s.l)) := HKG3.out.cell 0; have c1 : w3.cell? ⟨w.heap.size, 1, none⟩ = some (.int .i64 0) := HKG3.out.cell 1; have c2 : w3.cell? ⟨w.heap.size, 2, none⟩ = some (.int .i64 0) := HKG3.out.cell 2)
          obtain ⟨w4, hw4⟩ : ∃ x, w3.alloc (.cells #[.string (strOfNums m), .int .i64 0] 71) = x := ⟨_, rfl⟩
          have hb4 : Below w3.heap.size w3 w4 := by rw [← hw4]; exact (Below.refl _ w3).alloc (Nat.le_refl _) _
          have k4 : Blk w4 w3.heap.size 71 #[.string (strOfNums m), .int .i64 0] := by rw [← hw4]; exact Blk.new _ _ _
          have HKG4 := Lib.hid (HKG3.out.below hb4 HKG3.out.lt)
          have HKR4 := Lib.hid (HK3.out.below hb4 HK3.out.lt)
          have HB4 : Hid (Below w.heap.size w w4) := (HBW.out.trans (HB3.out.mono HBW.out.size)).trans (hb4.mono (by have := HBW.out.size; have := HB3.out.size; omega))
          have hR3 : R ≠ w3.heap.size := by have := HK3.out.lt; omega
          have hG3 : w.heap.size ≠ w3.heap.size := by have := HKG3.out.lt; omega
          obtain ⟨T, hT⟩ : ∃ x, w3.heap.size = x := ⟨_, rfl⟩
          have hRG : w.heap.size ≠ R := by have := HLT.out; omega
          rw [hT] at k4 hR3 hG3
          rw [hw4, hT]
          clear hw4 hb4 hT c0 c1 c2 HKG3 HK3
          have c0 : w4.cell? ⟨w.heap.size, 0, none⟩ = some (.string (strOfNums s.l)) := HKG4.out.cell 0
          have c1 : w4.cell? ⟨w.heap.size, 1, none⟩ = some (.int .i64 0) := HKG4.out.cell 1
          have c2 : w4.cell? ⟨w.heap.size, 2, none⟩ = some (.int .i64 0) := HKG4.out.cell 2
          have f0 := HKG4.out.frozen 0
          have f1 := HKG4.out.frozen 1
          have f2 := HKG4.out.frozen 2
          have d0 : w4.cell? ⟨R, 0, none⟩ = some (.string ⟨#[]⟩) := HKR4.out.cell 0
          have d1 : w4.cell? ⟨R, 1, none⟩ = some (.int .i64 0) := HKR4.out.cell 1
          have d2 : w4.cell? ⟨R, 2, none⟩ = some (.int .i64 0) := HKR4.out.cell 2
          have g0 := HKR4.out.frozen 0
          have g1 := HKR4.out.frozen 1
          have g2 := HKR4.out.frozen 2
          have t0 : w4.cell? ⟨T, 0, none⟩ = some (.string (strOfNums m)) := k4.cell 0
          have t1 : w4.cell? ⟨T, 1, none⟩ = some (.int .i64 0) := k4.cell 1
          clear k4
          go_upto_region 6 with fail
          obtain ⟨w5, hw5⟩ : ∃ x, (((w4.setCell ⟨w.heap.size, 0, none⟩ (.string (strOfNums m))).setCell ⟨w.heap.size, 1, none⟩ (.int .i64 0)).setCell ⟨w.heap.size, 2, none⟩ (.int .i64 0)) = x := ⟨_, rfl⟩
          have HKG5 : Hid (Blk w5 w.heap.size 73 #[.string (strOfNums m), .int .i64 0, .int .i64 0]) := by show Blk _ _ _ _; rw [← hw5]; simpa using (((HKG4.out.set_ 0 (.string (strOfNums m))).set_ 1 (.int .i64 0)).set_ 2 (.int .i64 0))
          have HKR5 : Hid (Blk w5 R 73 #[.string ⟨#[]⟩, .int .i64 0, .int .i64 0]) := by show Blk _ _ _ _; rw [← hw5]; exact (((HKR4.out.far (fun e => hRG e.symm) _).far (fun e => hRG e.symm) _).far (fun e => hRG e.symm) _)
          have HB5 : Hid (Below w.heap.size w w5) := by show Below _ _ _; rw [← hw5]; exact (((HB4.out.setCell (p := ⟨w.heap.size, 0, none⟩) (Nat.le_refl _) _).setCell (p := ⟨w.heap.size, 1, none⟩) (Nat.le_refl _) _).setCell (p := ⟨w.heap.size, 2, none⟩) (Nat.le_refl _) _)
          rw [hw5]
          clear hw5 HKG4 HKR4 HB4
          clear c0 c1 c2 f0 f1 f2 d0 d1 d2 g0 g1 g2
          have c0 : w5.cell? ⟨w.heap.size, 0, none⟩ = some (.string (strOfNums m)) := HKG5.out.cell 0
          have c1 : w5.cell? ⟨w.heap.size, 1, none⟩ = some (.int .i64 0) := HKG5.out.cell 1
          have c2 : w5.cell? ⟨w.heap.size, 2, none⟩ = some (.int .i64 0) := HKG5.out.cell 2
          have f0 := HKG5.out.frozen 0
          have f1 := HKG5.out.frozen 1
          have f2 := HKG5.out.frozen 2
          have d0 : w5.cell? ⟨R, 0, none⟩ = some (.string ⟨#[]⟩) := HKR5.out.cell 0
          have d1 : w5.cell? ⟨R, 1, none⟩ = some (.int .i64 0) := HKR5.out.cell 1
          have d2 : w5.cell? ⟨R, 2, none⟩ = some (.int .i64 0) := HKR5.out.cell 2
          have g0 := HKR5.out.frozen 0
          have g1 := HKR5.out.frozen 1
          have g2 := HKR5.out.frozen 2
          go_upto_region 8 with fail
          obtain ⟨w6, hw6⟩ : ∃ x, (w5.setCell ⟨w.heap.size, 2, none⟩ (.int .i64 6)) = x := ⟨_, rfl⟩
          have HKG6 : Hid (Blk w6 w.heap.size 73 #[.string (strOfNums m), .int .i64 0, .int .i64 6]) := by show Blk _ _ _ _; rw [← hw6]; simpa using (HKG5.out.set_ 2 (.int .i64 6))
          have HKR6 : Hid (Blk w6 R 73 #[.string ⟨#[]⟩, .int .i64 0, .int .i64 0]) := by show Blk _ _ _ _; rw [← hw6]; exact (HKR5.out.far (fun e => hRG e.symm) _)
          have HB6 : Hid (Below w.heap.size w w6) := by show Below _ _ _; rw [← hw6]; exact (HB5.out.setCell (p := ⟨w.heap.size, 2, none⟩) (Nat.le_refl _) _)
          rw [hw6]
          clear hw6 HKG5 HKR5 HB5
          clear c0 c1 c2 f0 f1 f2 d0 d1 d2 g0 g1 g2
          have c0 : w6.cell? ⟨w.heap.size, 0, none⟩ = some (.string (strOfNums m)) := HKG6.out.cell 0
          have c1 : w6.cell? ⟨w.heap.size, 1, none⟩ = some (.int .i64 0) := HKG6.out.cell 1
          have c2 : w6.cell? ⟨w.heap.size, 2, none⟩ = some (.int .i64 6) := HKG6.out.cell 2
          have f0 := HKG6.out.frozen 0
          have f1 := HKG6.out.frozen 1
          have f2 := HKG6.out.frozen 2
          have d0 : w6.cell? ⟨R, 0, none⟩ = some (.string ⟨#[]⟩) := HKR6.out.cell 0
          have d1 : w6.cell? ⟨R, 1, none⟩ = some (.int .i64 0) := HKR6.out.cell 1
          have d2 : w6.cell? ⟨R, 2, none⟩ = some (.int .i64 0) := HKR6.out.cell 2
          have g0 := HKR6.out.frozen 0
          have g1 := HKR6.out.frozen 1
          have g2 := HKR6.out.frozen 2
          go_wp2
          have hlt := HLT.out
          have HKF : Blk (((w6.setCell ⟨R, 0, none⟩ (.string (strOfNums m))).setCell ⟨R, 1, none⟩ (.int .i64 0)).setCell ⟨R, 2, none⟩ (.int .i64 6)) R 73 #[.string (strOfNums m), .int .i64 0, .int .i64 6] := by
            simpa using (((HKR6.out.set_ 0 (.string (strOfNums m))).set_ 1 (.int .i64 0)).set_ 2 (.int .i64 6))
          refine bodyPost_ret (v := .tuple #[.agg #[.string (strOfNums m), .int .i64 0, .int .i64 6], .int .u64 0]) (results_row11 Try.results30 _ rfl HKF Try.underlying73 rfl tyI) rfl ⟨_, by first | (rw [HT.out]; done) | (rw [HT.out]; rfl), by rw [HT.out]; exact ⟨m, 0, rfl, fun e => by first | exact ⟨rfl, rfl⟩ | (exfalso; simp at e; done) | (exfalso; simp at e; omega), HBY.out⟩, ?_⟩
          exact (((HB6.out.setCell (p := ⟨R, 0, none⟩) (Nat.le_of_lt hlt) _).setCell (p := ⟨R, 1, none⟩) (Nat.le_of_lt hlt) _).setCell (p := ⟨R, 2, none⟩) (Nat.le_of_lt hlt) _)
      · rw [if_neg hr] at HT
        have ha : ¬ (n : Int) < lo := by omega
        have hc : ¬ (hi : Int) < n := by omega
        clear hr
        go_enter Try.func30, Try.ntmps30
        go_upto_region 1 with fail
        (try rw [hw1])
        (try rw [hw2])
        (try rw [hR])
        clear hw1 hw2 hR
        have c0 : w2.cell? ⟨w.heap.size, 0, none⟩ = some (.string (strOfNums s.l)) := HKG.out.cell 0
        have c1 : w2.cell? ⟨w.heap.size, 1, none⟩ = some (.int .i64 0) := HKG.out.cell 1
        have c2 : w2.cell? ⟨w.heap.size, 2, none⟩ = some (.int .i64 0) := HKG.out.cell 2
        go_upto_region 4 with (go_at_call 53; (with_reducible refine (HN.out _).mono ?_); rintro e w3 ⟨rfl, hb3⟩; have HB3 := Lib.hid hb3; clear hb3 c0 c1 c2; have HKG3 : Hid (Blk w3 w.heap.size 73 #[.string (strOfNums s.l), .int .i64 0, .int .i64 0]) := HKG.out.below HB3.out HKG.out.lt; have HK3 := Lib.hid (HK2.out.below HB3.out HK2.out.lt); have c0 : w3.cell? ⟨w.heap.size, 0, none⟩ = some (.string (strOfNums s.l)) := HKG3.out.cell 0; have c1 : w3.cell? ⟨w.heap.size, 1, none⟩ = some (.int .i64 0) := HKG3.out.cell 1; have c2 : w3.cell? ⟨w.heap.size, 2, none⟩ = some (.int .i64 0) := HKG3.out.cell 2)
        obtain ⟨w4, hw4⟩ : ∃ x, w3.alloc (.cells #[.string (strOfNums m), .int .i64 0] 71) = x := ⟨_, rfl⟩
        have hb4 : Below w3.heap.size w3 w4 := by rw [← hw4]; exact (Below.refl _ w3).alloc (Nat.le_refl _) _
        have k4 : Blk w4 w3.heap.size 71 #[.string (strOfNums m), .int .i64 0] := by rw [← hw4]; exact Blk.new _ _ _
        have HKG4 := Lib.hid (HKG3.out.below hb4 HKG3.out.lt)
        have HKR4 := Lib.hid (HK3.out.below hb4 HK3.out.lt)
        have HB4 : Hid (Below w.heap.size w w4) := (HBW.out.trans (HB3.out.mono HBW.out.size)).trans (hb4.mono (by have := HBW.out.size; have := HB3.out.size; omega))
        have hR3 : R ≠ w3.heap.size := by have := HK3.out.lt; omega
        have hG3 : w.heap.size ≠ w3.heap.size := by have := HKG3.out.lt; omega
        obtain ⟨T, hT⟩ : ∃ x, w3.heap.size = x := ⟨_, rfl⟩
        have hRG : w.heap.size ≠ R := by have := HLT.out; omega
        rw [hT] at k4 hR3 hG3
        rw [hw4, hT]
        clear hw4 hb4 hT c0 c1 c2 HKG3 HK3
        have c0 : w4.cell? ⟨w.heap.size, 0, none⟩ = some (.string (strOfNums s.l)) := HKG4.out.cell 0
        have c1 : w4.cell? ⟨w.heap.size, 1, none⟩ = some (.int .i64 0) := HKG4.out.cell 1
        have c2 : w4.cell? ⟨w.heap.size, 2, none⟩ = some (.int .i64 0) := HKG4.out.cell 2
        have f0 := HKG4.out.frozen 0
        have f1 := HKG4.out.frozen 1
        have f2 := HKG4.out.frozen 2
        have d0 : w4.cell? ⟨R, 0, none⟩ = some (.string ⟨#[]⟩) := HKR4.out.cell 0
        have d1 : w4.cell? ⟨R, 1, none⟩ = some (.int .i64 0) := HKR4.out.cell 1
        have d2 : w4.cell? ⟨R, 2, none⟩ = some (.int .i64 0) := HKR4.out.cell 2
        have g0 := HKR4.out.frozen 0
        have g1 := HKR4.out.frozen 1
        have g2 := HKR4.out.frozen 2
        have t0 : w4.cell? ⟨T, 0, none⟩ = some (.string (strOfNums m)) := k4.cell 0
        have t1 : w4.cell? ⟨T, 1, none⟩ = some (.int .i64 0) := k4.cell 1
        clear k4
        go_upto_region 6 with fail
        obtain ⟨w5, hw5⟩ : ∃ x, (((w4.setCell ⟨w.heap.size, 0, none⟩ (.string (strOfNums m))).setCell ⟨w.heap.size, 1, none⟩ (.int .i64 0)).setCell ⟨w.heap.size, 2, none⟩ (.int .i64 0)) = x := ⟨_, rfl⟩
        have HKG5 : Hid (Blk w5 w.heap.size 73 #[.string (strOfNums m), .int .i64 0, .int .i64 0]) := by show Blk _ _ _ _; rw [← hw5]; simpa using (((HKG4.out.set_ 0 (.string (strOfNums m))).set_ 1 (.int .i64 0)).set_ 2 (.int .i64 0))
        have HKR5 : Hid (Blk w5 R 73 #[.string ⟨#[]⟩, .int .i64 0, .int .i64 0]) := by show Blk _ _ _ _; rw [← hw5]; exact (((HKR4.out.far (fun e => hRG e.symm) _).far (fun e => hRG e.symm) _).far (fun e => hRG e.symm) _)
        have HB5 : Hid (Below w.heap.size w w5) := by show Below _ _ _; rw [← hw5]; exact (((HB4.out.setCell (p := ⟨w.heap.size, 0, none⟩) (Nat.le_refl _) _).setCell (p := ⟨w.heap.size, 1, none⟩) (Nat.le_refl _) _).setCell (p := ⟨w.heap.size, 2, none⟩) (Nat.le_refl _) _)
        rw [hw5]
        clear hw5 HKG4 HKR4 HB4
        clear c0 c1 c2 f0 f1 f2 d0 d1 d2 g0 g1 g2
        have c0 : w5.cell? ⟨w.heap.size, 0, none⟩ = some (.string (strOfNums m)) := HKG5.out.cell 0
        have c1 : w5.cell? ⟨w.heap.size, 1, none⟩ = some (.int .i64 0) := HKG5.out.cell 1
        have c2 : w5.cell? ⟨w.heap.size, 2, none⟩ = some (.int .i64 0) := HKG5.out.cell 2
        have f0 := HKG5.out.frozen 0
        have f1 := HKG5.out.frozen 1
        have f2 := HKG5.out.frozen 2
        have d0 : w5.cell? ⟨R, 0, none⟩ = some (.string ⟨#[]⟩) := HKR5.out.cell 0
        have d1 : w5.cell? ⟨R, 1, none⟩ = some (.int .i64 0) := HKR5.out.cell 1
        have d2 : w5.cell? ⟨R, 2, none⟩ = some (.int .i64 0) := HKR5.out.cell 2
        have g0 := HKR5.out.frozen 0
        have g1 := HKR5.out.frozen 1
        have g2 := HKR5.out.frozen 2
        go_wp2
        have hlt := HLT.out
        have HKF : Blk (((w5.setCell ⟨R, 0, none⟩ (.string (strOfNums m))).setCell ⟨R, 1, none⟩ (.int .i64 0)).setCell ⟨R, 2, none⟩ (.int .i64 0)) R 73 #[.string (strOfNums m), .int .i64 0, .int .i64 0] := by
          simpa using (((HKR5.out.set_ 0 (.string (strOfNums m))).set_ 1 (.int .i64 0)).set_ 2 (.int .i64 0))
        refine bodyPost_ret (v := .tuple #[.agg #[.string (strOfNums m), .int .i64 0, .int .i64 0], .int .u64 n]) (results_row11 Try.results30 _ rfl HKF Try.underlying73 rfl tyI) rfl ⟨_, by first | (rw [HT.out]; done) | (rw [HT.out]; rfl), by rw [HT.out]; exact ⟨m, 0, rfl, fun e => by first | exact ⟨rfl, rfl⟩ | (exfalso; simp at e; done) | (exfalso; simp at e; omega), HBY.out⟩, ?_⟩
        exact (((HB5.out.setCell (p := ⟨R, 0, none⟩) (Nat.le_of_lt hlt) _).setCell (p := ⟨R, 1, none⟩) (Nat.le_of_lt hlt) _).setCell (p := ⟨R, 2, none⟩) (Nat.le_of_lt hlt) _)
    · rw [if_neg hwy] at HT
      have hn0 := (hb2'.1 hwy).2
      subst hn0
      have hwb : ((wy : Int) == 0) = false := by simp; omega
      have hwc : ((wy : Int) != 0) = true := by simp; omega
      go_enter Try.func30, Try.ntmps30
      go_upto_region 1 with fail
      (try rw [hw1])
      (try rw [hw2])
      (try rw [hR])
      clear hw1 hw2 hR
      have c0 : w2.cell? ⟨w.heap.size, 0, none⟩ = some (.string (strOfNums s.l)) := HKG.out.cell 0
      have c1 : w2.cell? ⟨w.heap.size, 1, none⟩ = some (.int .i64 0) := HKG.out.cell 1
      have c2 : w2.cell? ⟨w.heap.size, 2, none⟩ = some (.int .i64 0) := HKG.out.cell 2
      go_upto_region 4 with (go_at_call 53; (with_reducible refine (HN.out _).mono ?_); rintro e w3 ⟨rfl, hb3⟩; have HB3 := Lib.hid hb3; clear hb3 c0 c1 c2; have HKG3 : Hid (Blk w3 w.heap.size 73 #[.string (strOfNums s.l), .int .i64 0, .int .i64 0]) := HKG.out.below HB3.out HKG.out.lt; have HK3 := Lib.hid (HK2.out.below HB3.out HK2.out.lt); have c0 : w3.cell? ⟨w.heap.size, 0, none⟩ = some (.string (strOfNums s.l)) := HKG3.out.cell 0; have c1 : w3.cell? ⟨w.heap.size, 1, none⟩ = some (.int .i64 0) := HKG3.out.cell 1; have c2 : w3.cell? ⟨w.heap.size, 2, none⟩ = some (.int .i64 0) := HKG3.out.cell 2)
      obtain ⟨w4, hw4⟩ : ∃ x, w3.alloc (.cells #[.string (strOfNums m), .int .i64 (wy : Nat)] 71) = x := ⟨_, rfl⟩
      have hb4 : Below w3.heap.size w3 w4 := by rw [← hw4]; exact (Below.refl _ w3).alloc (Nat.le_refl _) _
      have k4 : Blk w4 w3.heap.size 71 #[.string (strOfNums m), .int .i64 (wy : Nat)] := by rw [← hw4]; exact Blk.new _ _ _
      have HKG4 := Lib.hid (HKG3.out.below hb4 HKG3.out.lt)
      have HKR4 := Lib.hid (HK3.out.below hb4 HK3.out.lt)
      have HB4 : Hid (Below w.heap.size w w4) := (HBW.out.trans (HB3.out.mono HBW.out.size)).trans (hb4.mono (by have := HBW.out.size; have := HB3.out.size; omega))
      have hR3 : R ≠ w3.heap.size := by have := HK3.out.lt; omega
      have hG3 : w.heap.size ≠ w3.heap.size := by have := HKG3.out.lt; omega
      obtain ⟨T, hT⟩ : ∃ x, w3.heap.size = x := ⟨_, rfl⟩
      have hRG : w.heap.size ≠ R := by have := HLT.out; omega
      rw [hT] at k4 hR3 hG3
      rw [hw4, hT]
      clear hw4 hb4 hT c0 c1 c2 HKG3 HK3
      have c0 : w4.cell? ⟨w.heap.size, 0, none⟩ = some (.string (strOfNums s.l)) := HKG4.out.cell 0
      have c1 : w4.cell? ⟨w.heap.size, 1, none⟩ = some (.int .i64 0) := HKG4.out.cell 1
      have c2 : w4.cell? ⟨w.heap.size, 2, none⟩ = some (.int .i64 0) := HKG4.out.cell 2
      have f0 := HKG4.out.frozen 0
      have f1 := HKG4.out.frozen 1
      have f2 := HKG4.out.frozen 2
      have d0 : w4.cell? ⟨R, 0, none⟩ = some (.string ⟨#[]⟩) := HKR4.out.cell 0
      have d1 : w4.cell? ⟨R, 1, none⟩ = some (.int .i64 0) := HKR4.out.cell 1
      have d2 : w4.cell? ⟨R, 2, none⟩ = some (.int .i64 0) := HKR4.out.cell 2
      have g0 := HKR4.out.frozen 0
      have g1 := HKR4.out.frozen 1
      have g2 := HKR4.out.frozen 2
      have t0 : w4.cell? ⟨T, 0, none⟩ = some (.string (strOfNums m)) := k4.cell 0
      have t1 : w4.cell? ⟨T, 1, none⟩ = some (.int .i64 (wy : Nat)) := k4.cell 1
      clear k4
      go_upto_region 6 with fail
      obtain ⟨w5, hw5⟩ : ∃ x, (((w4.setCell ⟨w.heap.size, 0, none⟩ (.string (strOfNums m))).setCell ⟨w.heap.size, 1, none⟩ (.int .i64 (wy : Nat))).setCell ⟨w.heap.size, 2, none⟩ (.int .i64 (wy : Nat))) = x := ⟨_, rfl⟩
      have HKG5 : Hid (Blk w5 w.heap.size 73 #[.string (strOfNums m), .int .i64 (wy : Nat), .int .i64 (wy : Nat)]) := by show Blk _ _ _ _; rw [← hw5]; simpa using (((HKG4.out.set_ 0 (.string (strOfNums m))).set_ 1 (.int .i64 (wy : Nat))).set_ 2 (.int .i64 (wy : Nat)))
      have HKR5 : Hid (Blk w5 R 73 #[.string ⟨#[]⟩, .int .i64 0, .int .i64 0]) := by show Blk _ _ _ _; rw [← hw5]; exact (((HKR4.out.far (fun e => hRG e.symm) _).far (fun e => hRG e.symm) _).far (fun e => hRG e.symm) _)
      have HB5 : Hid (Below w.heap.size w w5) := by show Below _ _ _; rw [← hw5]; exact (((HB4.out.setCell (p := ⟨w.heap.size, 0, none⟩) (Nat.le_refl _) _).setCell (p := ⟨w.heap.size, 1, none⟩) (Nat.le_refl _) _).setCell (p := ⟨w.heap.size, 2, none⟩) (Nat.le_refl _) _)
      rw [hw5]
      clear hw5 HKG4 HKR4 HB4
      clear c0 c1 c2 f0 f1 f2 d0 d1 d2 g0 g1 g2
      have c0 : w5.cell? ⟨w.heap.size, 0, none⟩ = some (.string (strOfNums m)) := HKG5.out.cell 0
      have c1 : w5.cell? ⟨w.heap.size, 1, none⟩ = some (.int .i64 (wy : Nat)) := HKG5.out.cell 1
      have c2 : w5.cell? ⟨w.heap.size, 2, none⟩ = some (.int .i64 (wy : Nat)) := HKG5.out.cell 2
      have f0 := HKG5.out.frozen 0
      have f1 := HKG5.out.frozen 1
      have f2 := HKG5.out.frozen 2
      have d0 : w5.cell? ⟨R, 0, none⟩ = some (.string ⟨#[]⟩) := HKR5.out.cell 0
      have d1 : w5.cell? ⟨R, 1, none⟩ = some (.int .i64 0) := HKR5.out.cell 1
      have d2 : w5.cell? ⟨R, 2, none⟩ = some (.int .i64 0) := HKR5.out.cell 2
      have g0 := HKR5.out.frozen 0
      have g1 := HKR5.out.frozen 1
      have g2 := HKR5.out.frozen 2
      go_wp2
      have hlt := HLT.out
      have HKF : Blk (((w5.setCell ⟨R, 0, none⟩ (.string (strOfNums m))).setCell ⟨R, 1, none⟩ (.int .i64 (wy : Nat))).setCell ⟨R, 2, none⟩ (.int .i64 (wy : Nat))) R 73 #[.string (strOfNums m), .int .i64 (wy : Nat), .int .i64 (wy : Nat)] := by
        simpa using (((HKR5.out.set_ 0 (.string (strOfNums m))).set_ 1 (.int .i64 (wy : Nat))).set_ 2 (.int .i64 (wy : Nat)))
      refine bodyPost_ret (v := .tuple #[.agg #[.string (strOfNums m), .int .i64 (wy : Nat), .int .i64 (wy : Nat)], .int .u64 0]) (results_row11 Try.results30 _ rfl HKF Try.underlying73 rfl tyI) rfl ⟨_, by first | (rw [HT.out]; done) | (rw [HT.out]; rfl), by rw [HT.out]; exact ⟨m, (wy : Nat), rfl, fun e => by first | exact ⟨rfl, rfl⟩ | (exfalso; simp at e; done) | (exfalso; simp at e; omega), HBY.out⟩, ?_⟩
      exact (((HB5.out.setCell (p := ⟨R, 0, none⟩) (Nat.le_of_lt hlt) _).setCell (p := ⟨R, 1, none⟩) (Nat.le_of_lt hlt) _).setCell (p := ⟨R, 2, none⟩) (Nat.le_of_lt hlt) _)
  · have HE := Lib.hid (takeR_bad he lo hi)
    have hne : (s.e != 0) = true := by simpa using he
    have HS : Hid (IvS #[.string (strOfNums l), .int .i64 wy, .int .i64 s.e] s) := ⟨l, wy, rfl, h0, hb, hl⟩
    clear h0 hb hl he k1 hb1 hw1
    go_enter Try.func30, Try.ntmps30
    go_wp2
    refine bodyPost_ret (v := .tuple #[.agg #[.string (strOfNums l), .int .i64 wy, .int .i64 s.e], .int .u64 0]) (by simp [results, Try.results30, go_sem]) rfl ⟨_, by rw [HE.out]; rfl, by rw [HE.out]; exact HS.out, ?_⟩
    exact ((Below.refl _ _).alloc (Nat.le_refl _) _).alloc (by simp) _
/-- What the document's reader has to say. -/
def IvT (s : RS) (l : List Int) (wy : Int) : Prop := (s.e = 0 → l = s.l ∧ wy = 0) ∧ Bytes l ∧ l.length ≤ 1000000
def iL (l : List Int) (wy e : Int) : Array Value := #[.string (strOfNums l), .int .i64 wy, .int .i64 e]
theorem rf_takeE {s s' : RS} {l : List Int} {wy : Int} {n : Nat} (h : IvT s l wy) (lo hi : Nat) (he : takeR s lo hi = (s', n)) {lo' hi' : Int} (h1 : lo' = lo) (h2 : hi' = hi) (w : World) :
    Calls Try.prog 30 #[.agg #[.string (strOfNums l), .int .i64 wy, .int .i64 s.e], .int .u64 lo', .int .u64 hi'] w fun e w' => ∃ l' wy', e = .returned (.tuple #[.agg #[.string (strOfNums l'), .int .i64 wy', .int .i64 s'.e], .int .u64 (n : Nat)]) ∧ IvT s' l' wy' ∧ Below w.heap.size w w' := by
  subst h1; subst h2
  have hc := rf_take (v := #[.string (strOfNums l), .int .i64 wy, .int .i64 s.e]) (s := s) ⟨l, wy, rfl, h.1, h.2.1, h.2.2⟩ lo hi w
  rw [he] at hc
  refine hc.mono ?_
  rintro e w' ⟨v, rfl, ⟨l', wy', rfl, h3⟩, h4⟩
  exact ⟨l', wy', rfl, h3, h4⟩
theorem load_I {w : World} {b : Nat} {l : List Int} {wy e : Int} (h : Blk w b 73 #[.string (strOfNums l), .int .i64 wy, .int .i64 e]) : (Instr.loadAt 73 (.pointer (some ⟨b, 0, none⟩))).run Try.prog w = .ok (.agg #[.string (strOfNums l), .int .i64 wy, .int .i64 e]) w := row_load h Try.underlying73 rfl tyI
theorem store_I {w : World} {b : Nat} {cs : Array Value} {l : List Int} {wy e : Int} (h : Blk w b 73 cs) (hs : cs.size = 3) :
    ∃ w', (Instr.storeAt 73 (.pointer (some ⟨b, 0, none⟩)) (.agg #[.string (strOfNums l), .int .i64 wy, .int .i64 e])).run Try.prog w = .ok () w' ∧ Blk w' b 73 #[.string (strOfNums l), .int .i64 wy, .int .i64 e] ∧ Tch (fun k => k = b) w w' :=
  ⟨_, row_store h #[.string (strOfNums l), .int .i64 wy, .int .i64 e] hs.symm tyI (by simp [Value.oneCell']), h.put _ (by rw [hs]; rfl), Tch.setCells (S := fun k => k = b) rfl _ _ _ (Tch.refl _ _)⟩
def RetLs (r : RS × List Int) (w : World) (e : Ending) (w' : World) : Prop :=
  ∃ l wy A m c, e = .returned (.tuple #[.agg #[.string (strOfNums l), .int .i64 wy, .int .i64 r.1.e], .slice A m c]) ∧ IvT r.1 l wy ∧ w'.ownsRow (w.heap.size + 2) 3 1 (.slice A m c) m (r.2.map (.int .i64)) ∧ r.2.length = m ∧ m ≤ 64 ∧ (∀ x ∈ r.2, (Lit.int .i64 x).wf = true) ∧ Below w.heap.size w w'
/-- The list while it is read. -/
structure LiS (w : World) (s : RS) (xs : List Int) (wr : World) (l : List Int) (wy : Int) (A : Option Addr) (m c : Nat) : Prop where
  iv : IvT s l wy
  ig : Blk wr w.heap.size 73 #[.string (strOfNums l), .int .i64 wy, .int .i64 s.e]
  ir : Blk wr (w.heap.size + 1) 73 #[.string ⟨#[]⟩, .int .i64 0, .int .i64 0]
  own : wr.ownsRow (w.heap.size + 2) 3 1 (.slice A m c) m (xs.map (.int .i64))
  len : xs.length = m
  wf : ∀ x ∈ xs, (Lit.int .i64 x).wf = true
  bel : Below w.heap.size w wr
section
variable {w wr w' W5 : World} {s s' : RS} {xs l l' : List Int} {wy wy' : Int} {A : Option Addr} {m c b c' : Nat}
theorem LiS.sz (H : LiS w s xs wr l wy A m c) : w.heap.size + 2 ≤ wr.heap.size := H.ir.lt
theorem LiS.below (H : LiS w s xs wr l wy A m c) (hb : Below wr.heap.size wr w') : LiS w s xs w' l wy A m c :=
  ⟨H.iv, H.ig.below hb H.ig.lt, H.ir.below hb H.ir.lt, ownsRow_tchJ H.own (Tch.of_below (S := fun _ => False) hb) fun _ _ h => h, H.len, H.wf, H.bel.trans (hb.mono H.bel.size)⟩
theorem LiS.put (H : LiS w s xs wr l wy A m c) (hT : Tch (fun k => k = w.heap.size) wr w') (hb : Blk w' w.heap.size 73 #[.string (strOfNums l'), .int .i64 wy', .int .i64 s'.e]) (hi : IvT s' l' wy') : LiS w s' xs w' l' wy' A m c :=
  ⟨hi, hb, H.ir.tch hT (by omega), ownsRow_tchJ H.own hT fun k hk => by have := (H.own.lt k hk).1; omega, H.len, H.wf, H.bel.trans (hT.below H.bel.size fun k hk => by omega)⟩
theorem LiS.push (H : LiS w s xs wr l wy A m c) {x : Int} (hx : (Lit.int .i64 x).wf = true) (hgr : wr.grownBy W5 (Value.slice A m c).ownBlock)
    (ho : W5.ownsRow (w.heap.size + 2) 3 1 (.slice (some ⟨b, 0, none⟩) (m + 1) c') (m + 1) (xs.map (.int .i64) ++ #[.int .i64 x].toList)) : LiS w s (xs ++ [x]) W5 l wy (some ⟨b, 0, none⟩) (m + 1) c' := by
  have ht := grownBy_tchJ hgr
  have hk : ∀ k, some k = (Value.slice A m c).ownBlock → w.heap.size + 2 ≤ k := fun k h => (H.own.lt k h.symm).1
  refine ⟨H.iv, H.ig.tch ht (fun h => by have := hk _ h; omega), H.ir.tch ht (fun h => by have := hk _ h; omega), by rw [List.map_append]; exact ho, by rw [List.length_append, H.len]; rfl, ?_, H.bel.trans (ht.below H.bel.size fun k h => by have := hk k h; omega)⟩
  intro z hz
  rcases List.mem_append.1 hz with h | h
  · exact H.wf z h
  · rw [List.mem_singleton.1 h]; exact hx
end
set_option maxRecDepth 100000 in
set_option maxHeartbeats 8000000 in
theorem rf_list {s : RS} {l : List Int} {wy : Int} (h : IvT s l wy) (lk lv nn : Nat) (h1 : 1 ≤ nn) (h2 : nn ≤ 4097) (w : World) :
    Calls Try.prog 55 #[.agg #[.string (strOfNums l), .int .i64 wy, .int .i64 s.e], .int .i64 (lk : Nat), .int .i64 (lv : Nat), .int .i64 (nn : Nat)] w (RetLs (lv1R lk nn lv s) w) := by
  obtain ⟨w1, hw1⟩ : ∃ x, (w.alloc (.cells #[.string (strOfNums l), .int .i64 wy, .int .i64 s.e] 73)).alloc (.cells #[.string ⟨#[]⟩, .int .i64 0, .int .i64 0] 73) = x := ⟨_, rfl⟩
  obtain ⟨mm, hmm⟩ : ∃ m : Nat, mostE lk lv = m := ⟨(mostE lk lv).toNat, by have := mostE_bd lk lv; omega⟩
  have hmb : 1 ≤ mm ∧ mm ≤ 64 := by have := mostE_bd lk lv; omega
  have HM := Lib.hid (fun W => rf_most lk lv W)
  rw [hmm] at HM
  obtain ⟨sb, cnt, eb⟩ : ∃ a b, takeR s 0 mm = (a, b) := ⟨_, _, rfl⟩
  obtain ⟨sc, xl, ec⟩ : ∃ a b, lisR nn cnt sb [] = (a, b) := ⟨_, _, rfl⟩
  have hcb : cnt ≤ 64 := Nat.le_trans (take_le eb) hmb.2
  have HE : Hid (lv1R lk nn lv s = (sc, xl)) := by show _ = _; unfold lv1R; rw [hmm, Int.toNat_natCast, eb]; exact ec
  have HS1 : Hid (LiS w s [] w1 l wy none 0 0) := by
    show LiS _ _ _ _ _ _ _ _ _
    rw [← hw1]
    have hs : (w.alloc (.cells #[.string (strOfNums l), .int .i64 wy, .int .i64 s.e] 73)).heap.size = w.heap.size + 1 := by simp only [World.alloc, Array.size_push]
    refine ⟨h, (Blk.new w _ _).alloc _, ?_, World.ownsRow_nil _ _ _ _, rfl, fun x hx => (by cases hx), ((Below.refl _ w).alloc (Nat.le_refl _) _).alloc (by omega) _⟩
    have := Blk.new (w.alloc (.cells #[.string (strOfNums l), .int .i64 wy, .int .i64 s.e] 73)) 73 #[.string ⟨#[]⟩, .int .i64 0, .int .i64 0]
    rw [hs] at this
    exact this
  have EB := Lib.hid eb
  have EC := Lib.hid ec
  have HNN : Hid (1 ≤ nn ∧ nn ≤ 4097) := ⟨h1, h2⟩
  obtain ⟨nm, hnm⟩ : ∃ k, nn - 1 = k := ⟨_, rfl⟩
  have hnn : (nn : Int) - 1 = (nm : Int) := by omega
  have hnmb : nm ≤ 4096 := by omega
  have HNM := Lib.hid hnm
  clear eb ec hmm h h1 h2 hnm
  go_enter Try.func55, Try.ntmps55
  go_upto_region 1 with fail
  (try rw [hw1])
  clear hw1
  refine wp_region_held_drew (S := fun _ => True) (by kernel_rfl) trivial (fun hH => ?_)
  obtain ⟨W, hW⟩ : ∃ x, w1.drew = x := ⟨_, rfl⟩
  have HS2 : Hid (LiS w s [] W l wy none 0 0) := by show LiS _ _ _ _ _ _ _ _ _; rw [← hW]; exact HS1.out.below (below_drewN (Below.refl _ w1) 1)
  rw [hW]
  clear hW HS1 hH
  refine wpAnyH_take (i := 1) (v := .int .i64 (lk : Nat)) rfl (by kernel_rfl) (by kernel_rfl) (by kernel_rfl) (fun _ _ _ h => h) (.inl ⟨by rfl, fun _ _ => by kernel_rfl⟩) trivial ?_
  (try simp only [List.getElem_toArray, List.getElem_cons_zero, List.getElem_cons_succ, Act.put, List.setIfInBounds_toArray, List.set_cons_zero, List.set_cons_succ])
  refine wpAnyH_take (i := 2) (v := .int .i64 (lv : Nat)) rfl (by kernel_rfl) (by kernel_rfl) (by kernel_rfl) (fun _ _ _ h => h) (.inl ⟨by rfl, fun _ _ => by kernel_rfl⟩) trivial ?_
  (try simp only [List.getElem_toArray, List.getElem_cons_zero, List.getElem_cons_succ, Act.put, List.setIfInBounds_toArray, List.set_cons_zero, List.set_cons_succ])
  refine wpAnyH_all (rs := [0, 3]) (by kernel_rfl) (by simp) (fun i hi => ?_)
  rcases (by simpa using hi : i = 0 ∨ i = 3) with rfl | rfl
  · refine wpOp_value (w' := W) (.agg #[.string (strOfNums l), .int .i64 wy, .int .i64 s.e]) (by rfl) (by kernel_rfl) (exec_load (by rfl) (by rfl) (load_I HS2.out.ig)) ⟨trivial, ?_⟩
    (try simp only [List.getElem_toArray, List.getElem_cons_zero, Act.put, List.setIfInBounds_toArray, List.set_cons_zero, List.set_cons_succ])
    refine wpAnyH_call 3 72 #[.int .i64 (lk : Nat), .int .i64 (lv : Nat)] _ (by kernel_rfl) (by rfl) (by kernel_rfl) (by kernel_rfl) (HM.out W) ?_
    rintro e W9 ⟨rfl, rfl⟩
    refine ⟨_, rfl, trivial, ?_⟩
    (try simp only [List.getElem_toArray, List.getElem_cons_zero, List.getElem_cons_succ, Act.put, List.setIfInBounds_toArray, List.set_cons_zero, List.set_cons_succ])
    refine wpAnyH_take (i := 4) (v := .int .u64 (mm : Nat)) rfl (by kernel_rfl) (by kernel_rfl) (by kernel_rfl) (fun _ _ _ h => h) (yieldsIf_convU (by rw [IntKind.wrap_u64]; omega) (by rfl) _ rfl rfl) trivial ?_
    (try simp only [List.getElem_toArray, List.getElem_cons_zero, List.getElem_cons_succ, Act.put, List.setIfInBounds_toArray, List.set_cons_zero, List.set_cons_succ])
    refine wpAnyH_call 5 30 #[.agg #[.string (strOfNums l), .int .i64 wy, .int .i64 s.e], .int .u64 0, .int .u64 (mm : Nat)] _ (by kernel_rfl) (by rfl) (by kernel_rfl) (by kernel_rfl) (rf_takeE HS2.out.iv 0 mm EB.out rfl rfl W) ?_
    rintro e W3 ⟨l3, wy3, rfl, h3i, h3b⟩
    have HS3 := Lib.hid (HS2.out.below h3b)
    have H3I := Lib.hid h3i
    clear h3i h3b
    refine ⟨_, rfl, trivial, ?_⟩
    (try simp only [List.getElem_toArray, List.getElem_cons_zero, List.getElem_cons_succ, Act.put, List.setIfInBounds_toArray, List.set_cons_zero, List.set_cons_succ])
    refine wpAnyH_take (i := 6) (v := .tuple #[.agg #[.string (strOfNums l3), .int .i64 wy3, .int .i64 sb.e], .int .u64 (cnt : Nat)]) rfl (by kernel_rfl) (by kernel_rfl) (by kernel_rfl) (fun _ _ _ h => h) (.inl ⟨by rfl, fun _ _ => by kernel_rfl⟩) trivial ?_
    (try simp only [List.getElem_toArray, List.getElem_cons_zero, List.getElem_cons_succ, Act.put, List.setIfInBounds_toArray, List.set_cons_zero, List.set_cons_succ])
    refine wpAnyH_take (i := 7) (v := .agg #[.string (strOfNums l3), .int .i64 wy3, .int .i64 sb.e]) rfl (by kernel_rfl) (by kernel_rfl) (by kernel_rfl) (fun _ _ _ h => h) (.inl ⟨by rfl, fun _ _ => by kernel_rfl⟩) trivial ?_
    (try simp only [List.getElem_toArray, List.getElem_cons_zero, List.getElem_cons_succ, Act.put, List.setIfInBounds_toArray, List.set_cons_zero, List.set_cons_succ])
    refine wpAnyH_take (i := 8) (v := .int .u64 (cnt : Nat)) rfl (by kernel_rfl) (by kernel_rfl) (by kernel_rfl) (fun _ _ _ h => h) (.inl ⟨by rfl, fun _ _ => by kernel_rfl⟩) trivial ?_
    (try simp only [List.getElem_toArray, List.getElem_cons_zero, List.getElem_cons_succ, Act.put, List.setIfInBounds_toArray, List.set_cons_zero, List.set_cons_succ])
    obtain ⟨W4, SR, k4, t4⟩ := store_I (l := l3) (wy := wy3) (e := sb.e) HS3.out.ig rfl
    have HS4 := Lib.hid (HS3.out.put t4 k4 H3I.out)
    refine wpAnyH_store 9 _ _ _ (by kernel_rfl) (by rfl) (by kernel_rfl) (by rfl) (by rfl) (by rfl) SR trivial ?_
    (try simp only [List.getElem_toArray, List.getElem_cons_zero, List.getElem_cons_succ, Act.put])
    refine wpAnyH_take (i := 10) (v := .int .u64 (cnt : Nat)) rfl (by kernel_rfl) (by kernel_rfl) (by kernel_rfl) (fun _ _ _ h => h) (.inl ⟨by rfl, fun _ _ => by kernel_rfl⟩) trivial ?_
    (try simp only [List.getElem_toArray, List.getElem_cons_zero, List.getElem_cons_succ, Act.put, List.setIfInBounds_toArray, List.set_cons_zero, List.set_cons_succ])
    refine wpAnyH_done (by kernel_rfl) ?_ _
    clear SR k4 t4 HS2 HS3 H3I EB HM
    go_upto_region 4 with fail
    go_loopw [11, 12, 13, 14] (fun s11 s12 _ _ wr => ∃ (j k : Nat) (s' : RS) (xs l' : List Int) (wy' : Int) (A : Option Addr) (m c : Nat), j + k = cnt ∧ m ≤ j ∧ s11 = .slice A m c ∧ s12 = .int .u64 j ∧ Hid (LiS w s' xs wr l' wy' A m c) ∧ Hid (lisR nn k s' xs = (sc, xl))) (fun _ s12 _ _ _ => 64 - (intOf s12).toNat)
    case atStart => exact ⟨0, cnt, sb, [], l3, wy3, none, 0, 0, by omega, Nat.le_refl _, rfl, rfl, HS4, EC⟩
    case round =>
      obtain ⟨j, k, s', xs, l', wy', A, m, c, hj, hmj, rfl, rfl, hn, hv⟩ := hrel
      clear HS4 EC
      have c2 : wr.cell? ⟨w.heap.size, 2, none⟩ = some (.int .i64 s'.e) := hn.out.ig.cell 2
      by_cases hk0 : k = 0
      · subst hk0
        obtain ⟨rfl, rfl⟩ := lisR_stop hv.out (.inl rfl)
        have hlt : ¬ j < cnt := by omega
        clear hv
        have LP := load_I hn.out.ig
        obtain ⟨W9, SR, k9, t9⟩ := store_I (l := l') (wy := wy') (e := s'.e) hn.out.ir rfl
        have K9 := Lib.hid k9
        have T9 := Lib.hid t9
        clear k9 t9
        go_wp2_with (first
          | ((with_reducible refine wpList_loadE (op := ⟨some 48, _, _, _, _, _⟩) LP ?leX3 ?leG3 ?leO3 ?leE3 ?_); (case leO3 => exact rfl); (case leE3 => exact rfl); (case leG3 => exact rfl))
          | refine wpList_storeE SR _ _ rfl rfl rfl rfl ?_)
        refine bodyPost_ret (v := .tuple #[.agg #[.string (strOfNums l'), .int .i64 wy', .int .i64 s'.e], .slice A m c]) (results_row11 Try.results55 _ rfl K9.out Try.underlying73 rfl tyI) rfl ?_
        rw [HE.out]
        exact ⟨l', wy', A, m, c, rfl, hn.out.iv, ownsRow_tchJ hn.out.own T9.out fun k hk => (by have := (hn.out.own.lt k hk).1; omega), hn.out.len, by omega, hn.out.wf, hn.out.bel.trans (T9.out.below hn.out.bel.size fun k hk => by omega)⟩
      · have hlt : j < cnt := by omega
        by_cases he : s'.e = 0
        · have hvb : (s'.e == 0) = true := by simpa using he
          obtain ⟨k, rfl⟩ : ∃ i, k = i + 1 := ⟨k - 1, by omega⟩
          obtain ⟨sd, x, ed⟩ : ∃ a b, takeR s' 0 (nn - 1) = (a, b) := ⟨_, _, rfl⟩
          have hv4 : Hid (lisR nn k sd (xs ++ [((x : Nat) : Int)]) = (sc, xl)) := by
            have := hv.out
            rw [lisR, if_pos he, ed] at this
            exact this
          have hxb : x ≤ 4096 := by have := take_le ed; have := HNN.out; omega
          rw [HNM.out] at ed
          have ED := Lib.hid ed
          have hxw : (Lit.int .i64 (x : Nat)).wf = true := wf_i64K (by omega)
          have HXW := Lib.hid hxw
          have LP := load_I hn.out.ig
          clear hv he ed hxw
          go_upto_region 7 with (first
            | ((with_reducible refine wpList_loadE (op := ⟨some 35, _, _, _, _, _⟩) LP ?leX1 ?leG1 ?leO1 ?leE1 ?_); (case leO1 => exact rfl); (case leE1 => exact rfl); (case leG1 => exact rfl))
            | (go_at_call 30; (with_reducible refine (rf_takeE hn.out.iv 0 nm ED.out (lo' := 0) rfl (hi' := (nm : Nat)) rfl _).mono ?_); rintro e W5 ⟨l5, wy5, rfl, h5i, h5b⟩; have HS5 := Lib.hid (hn.out.below h5b); have H5I := Lib.hid h5i; clear h5i h5b LP c2))
          obtain ⟨W6, hW6⟩ : ∃ q, W5.alloc (.cells #[.string (strOfNums l5), .int .i64 wy5, .int .i64 sd.e] 73) = q := ⟨_, rfl⟩
          have k6 : Blk W6 W5.heap.size 73 #[.string (strOfNums l5), .int .i64 wy5, .int .i64 sd.e] := by rw [← hW6]; exact Blk.new _ _ _
          have HS6 : Hid (LiS w s' xs W6 l' wy' A m c) := by show LiS _ _ _ _ _ _ _ _ _; rw [← hW6]; exact HS5.out.below ((Below.refl _ W5).alloc (Nat.le_refl _) _)
          have LP := load_I k6
          obtain ⟨W7, SR, k7, t7⟩ := store_I (l := l5) (wy := wy5) (e := sd.e) HS6.out.ig rfl
          have HS7 := Lib.hid (HS6.out.put t7 k7 H5I.out)
          rw [hW6]
          clear hW6 k6 k7 t7 HS5 HS6 H5I hn
          go_wp2_with (first
            | ((with_reducible refine wpList_loadE (op := ⟨some 42, _, _, _, _, _⟩) LP ?leX2 ?leG2 ?leO2 ?leE2 ?_); (case leO2 => exact rfl); (case leE2 => exact rfl); (case leG2 => exact rfl))
            | refine wpList_storeE SR _ _ rfl rfl rfl rfl ?_
            | (at_builtin; refine wpList_pushJ rfl (.tmp 43) (.tmp 46) 43 3 1 8 _ rfl Try.underlying43 info_intK rfl (by decide) W7 (w.heap.size + 2) (.slice A m c) m (xs.map (.int .i64)) #[.int .i64 ((x : Nat) : Int)] rfl HS7.out.own rfl rfl (by simp [Value.oneCell']) (by omega) (by decide) HS7.out.sz ?_; intro b c5 W8 ho hgr hb5 hat; have HS8 := Lib.hid (HS7.out.push HXW.out hgr ho); clear ho hgr hb5 hat LP SR))
          go_roundw
          case rel => exact ⟨j + 1, k, sd, _, _, _, _, m + 1, _, by omega, by omega, rfl, by go_num, HS8, hv4⟩
          case measure => simp [intOf]; omega
        · obtain ⟨rfl, rfl⟩ := lisR_stop hv.out (.inr he)
          have hvb : (s'.e == 0) = false := by simpa using he
          clear hv he
          have LP := load_I hn.out.ig
          obtain ⟨W9, SR, k9, t9⟩ := store_I (l := l') (wy := wy') (e := s'.e) hn.out.ir rfl
          have K9 := Lib.hid k9
          have T9 := Lib.hid t9
          clear k9 t9
          go_wp2_with (first
            | ((with_reducible refine wpList_loadE (op := ⟨some 48, _, _, _, _, _⟩) LP ?leX3F ?leG3F ?leO3F ?leE3F ?_); (case leO3F => exact rfl); (case leE3F => exact rfl); (case leG3F => exact rfl))
            | refine wpList_storeE SR _ _ rfl rfl rfl rfl ?_)
          refine bodyPost_ret (v := .tuple #[.agg #[.string (strOfNums l'), .int .i64 wy', .int .i64 s'.e], .slice A m c]) (results_row11 Try.results55 _ rfl K9.out Try.underlying73 rfl tyI) rfl ?_
          rw [HE.out]
          exact ⟨l', wy', A, m, c, rfl, hn.out.iv, ownsRow_tchJ hn.out.own T9.out fun k hk => (by have := (hn.out.own.lt k hk).1; omega), hn.out.len, by omega, hn.out.wf, hn.out.bel.trans (T9.out.below hn.out.bel.size fun k hk => by omega)⟩
  · refine wpOp_call 72 #[.int .i64 (lk : Nat), .int .i64 (lv : Nat)] _ (by rfl) (by kernel_rfl) (by kernel_rfl) (HM.out W) ?_
    rintro e W9 ⟨rfl, rfl⟩
    refine ⟨_, rfl, trivial, ?_⟩
    (try simp only [List.getElem_toArray, List.getElem_cons_zero, List.getElem_cons_succ, Act.put, List.setIfInBounds_toArray, List.set_cons_zero, List.set_cons_succ])
    refine wpAnyH_take (i := 4) (v := .int .u64 (mm : Nat)) rfl (by kernel_rfl) (by kernel_rfl) (by kernel_rfl) (fun _ _ _ h => h) (yieldsIf_convU (by rw [IntKind.wrap_u64]; omega) (by rfl) _ rfl rfl) trivial ?_
    (try simp only [List.getElem_toArray, List.getElem_cons_zero, List.getElem_cons_succ, Act.put, List.setIfInBounds_toArray, List.set_cons_zero, List.set_cons_succ])
    refine wpAnyH_value 0 (.agg #[.string (strOfNums l), .int .i64 wy, .int .i64 s.e]) (by kernel_rfl) (by rfl) (by kernel_rfl) (exec_load (by rfl) (by rfl) (load_I HS2.out.ig)) trivial ?_
    (try simp only [List.getElem_toArray, List.getElem_cons_zero, Act.put, List.setIfInBounds_toArray, List.set_cons_zero, List.set_cons_succ])
    refine wpAnyH_call 5 30 #[.agg #[.string (strOfNums l), .int .i64 wy, .int .i64 s.e], .int .u64 0, .int .u64 (mm : Nat)] _ (by kernel_rfl) (by rfl) (by kernel_rfl) (by kernel_rfl) (rf_takeE HS2.out.iv 0 mm EB.out rfl rfl W) ?_
    rintro e W3 ⟨l3, wy3, rfl, h3i, h3b⟩
    have HS3 := Lib.hid (HS2.out.below h3b)
    have H3I := Lib.hid h3i
    clear h3i h3b
    refine ⟨_, rfl, trivial, ?_⟩
    (try simp only [List.getElem_toArray, List.getElem_cons_zero, List.getElem_cons_succ, Act.put, List.setIfInBounds_toArray, List.set_cons_zero, List.set_cons_succ])
    refine wpAnyH_take (i := 6) (v := .tuple #[.agg #[.string (strOfNums l3), .int .i64 wy3, .int .i64 sb.e], .int .u64 (cnt : Nat)]) rfl (by kernel_rfl) (by kernel_rfl) (by kernel_rfl) (fun _ _ _ h => h) (.inl ⟨by rfl, fun _ _ => by kernel_rfl⟩) trivial ?_
    (try simp only [List.getElem_toArray, List.getElem_cons_zero, List.getElem_cons_succ, Act.put, List.setIfInBounds_toArray, List.set_cons_zero, List.set_cons_succ])
    refine wpAnyH_take (i := 7) (v := .agg #[.string (strOfNums l3), .int .i64 wy3, .int .i64 sb.e]) rfl (by kernel_rfl) (by kernel_rfl) (by kernel_rfl) (fun _ _ _ h => h) (.inl ⟨by rfl, fun _ _ => by kernel_rfl⟩) trivial ?_
    (try simp only [List.getElem_toArray, List.getElem_cons_zero, List.getElem_cons_succ, Act.put, List.setIfInBounds_toArray, List.set_cons_zero, List.set_cons_succ])
    refine wpAnyH_take (i := 8) (v := .int .u64 (cnt : Nat)) rfl (by kernel_rfl) (by kernel_rfl) (by kernel_rfl) (fun _ _ _ h => h) (.inl ⟨by rfl, fun _ _ => by kernel_rfl⟩) trivial ?_
    (try simp only [List.getElem_toArray, List.getElem_cons_zero, List.getElem_cons_succ, Act.put, List.setIfInBounds_toArray, List.set_cons_zero, List.set_cons_succ])
    obtain ⟨W4, SR, k4, t4⟩ := store_I (l := l3) (wy := wy3) (e := sb.e) HS3.out.ig rfl
    have HS4 := Lib.hid (HS3.out.put t4 k4 H3I.out)
    refine wpAnyH_store 9 _ _ _ (by kernel_rfl) (by rfl) (by kernel_rfl) (by rfl) (by rfl) (by rfl) SR trivial ?_
    (try simp only [List.getElem_toArray, List.getElem_cons_zero, List.getElem_cons_succ, Act.put])
    refine wpAnyH_take (i := 10) (v := .int .u64 (cnt : Nat)) rfl (by kernel_rfl) (by kernel_rfl) (by kernel_rfl) (fun _ _ _ h => h) (.inl ⟨by rfl, fun _ _ => by kernel_rfl⟩) trivial ?_
    (try simp only [List.getElem_toArray, List.getElem_cons_zero, List.getElem_cons_succ, Act.put, List.setIfInBounds_toArray, List.set_cons_zero, List.set_cons_succ])
    refine wpAnyH_done (by kernel_rfl) ?_ _
    clear SR k4 t4 HS2 HS3 H3I EB HM
    go_upto_region 4 with fail
    go_loopw [11, 12, 13, 14] (fun s11 s12 _ _ wr => ∃ (j k : Nat) (s' : RS) (xs l' : List Int) (wy' : Int) (A : Option Addr) (m c : Nat), j + k = cnt ∧ m ≤ j ∧ s11 = .slice A m c ∧ s12 = .int .u64 j ∧ Hid (LiS w s' xs wr l' wy' A m c) ∧ Hid (lisR nn k s' xs = (sc, xl))) (fun _ s12 _ _ _ => 64 - (intOf s12).toNat)
    case atStart => exact ⟨0, cnt, sb, [], l3, wy3, none, 0, 0, by omega, Nat.le_refl _, rfl, rfl, HS4, EC⟩
    case round =>
      obtain ⟨j, k, s', xs, l', wy', A, m, c, hj, hmj, rfl, rfl, hn, hv⟩ := hrel
      clear HS4 EC
      have c2 : wr.cell? ⟨w.heap.size, 2, none⟩ = some (.int .i64 s'.e) := hn.out.ig.cell 2
      by_cases hk0 : k = 0
      · subst hk0
        obtain ⟨rfl, rfl⟩ := lisR_stop hv.out (.inl rfl)
        have hlt : ¬ j < cnt := by omega
        clear hv
        have LP := load_I hn.out.ig
        obtain ⟨W9, SR, k9, t9⟩ := store_I (l := l') (wy := wy') (e := s'.e) hn.out.ir rfl
        have K9 := Lib.hid k9
        have T9 := Lib.hid t9
        clear k9 t9
        go_wp2_with (first
          | ((with_reducible refine wpList_loadE (op := ⟨some 48, _, _, _, _, _⟩) LP ?leX3B ?leG3B ?leO3B ?leE3B ?_); (case leO3B => exact rfl); (case leE3B => exact rfl); (case leG3B => exact rfl))
          | refine wpList_storeE SR _ _ rfl rfl rfl rfl ?_)
        refine bodyPost_ret (v := .tuple #[.agg #[.string (strOfNums l'), .int .i64 wy', .int .i64 s'.e], .slice A m c]) (results_row11 Try.results55 _ rfl K9.out Try.underlying73 rfl tyI) rfl ?_
        rw [HE.out]
        exact ⟨l', wy', A, m, c, rfl, hn.out.iv, ownsRow_tchJ hn.out.own T9.out fun k hk => (by have := (hn.out.own.lt k hk).1; omega), hn.out.len, by omega, hn.out.wf, hn.out.bel.trans (T9.out.below hn.out.bel.size fun k hk => by omega)⟩
      · have hlt : j < cnt := by omega
        by_cases he : s'.e = 0
        · have hvb : (s'.e == 0) = true := by simpa using he
          obtain ⟨k, rfl⟩ : ∃ i, k = i + 1 := ⟨k - 1, by omega⟩
          obtain ⟨sd, x, ed⟩ : ∃ a b, takeR s' 0 (nn - 1) = (a, b) := ⟨_, _, rfl⟩
          have hv4 : Hid (lisR nn k sd (xs ++ [((x : Nat) : Int)]) = (sc, xl)) := by
            have := hv.out
            rw [lisR, if_pos he, ed] at this
            exact this
          have hxb : x ≤ 4096 := by have := take_le ed; have := HNN.out; omega
          rw [HNM.out] at ed
          have ED := Lib.hid ed
          have hxw : (Lit.int .i64 (x : Nat)).wf = true := wf_i64K (by omega)
          have HXW := Lib.hid hxw
          have LP := load_I hn.out.ig
          clear hv he ed hxw
          go_upto_region 7 with (first
            | ((with_reducible refine wpList_loadE (op := ⟨some 35, _, _, _, _, _⟩) LP ?leX1B ?leG1B ?leO1B ?leE1B ?_); (case leO1B => exact rfl); (case leE1B => exact rfl); (case leG1B => exact rfl))
            | (go_at_call 30; (with_reducible refine (rf_takeE hn.out.iv 0 nm ED.out (lo' := 0) rfl (hi' := (nm : Nat)) rfl _).mono ?_); rintro e W5 ⟨l5, wy5, rfl, h5i, h5b⟩; have HS5 := Lib.hid (hn.out.below h5b); have H5I := Lib.hid h5i; clear h5i h5b LP c2))
          obtain ⟨W6, hW6⟩ : ∃ q, W5.alloc (.cells #[.string (strOfNums l5), .int .i64 wy5, .int .i64 sd.e] 73) = q := ⟨_, rfl⟩
          have k6 : Blk W6 W5.heap.size 73 #[.string (strOfNums l5), .int .i64 wy5, .int .i64 sd.e] := by rw [← hW6]; exact Blk.new _ _ _
          have HS6 : Hid (LiS w s' xs W6 l' wy' A m c) := by show LiS _ _ _ _ _ _ _ _ _; rw [← hW6]; exact HS5.out.below ((Below.refl _ W5).alloc (Nat.le_refl _) _)
          have LP := load_I k6
          obtain ⟨W7, SR, k7, t7⟩ := store_I (l := l5) (wy := wy5) (e := sd.e) HS6.out.ig rfl
          have HS7 := Lib.hid (HS6.out.put t7 k7 H5I.out)
          rw [hW6]
          clear hW6 k6 k7 t7 HS5 HS6 H5I hn
          go_wp2_with (first
            | ((with_reducible refine wpList_loadE (op := ⟨some 42, _, _, _, _, _⟩) LP ?leX2B ?leG2B ?leO2B ?leE2B ?_); (case leO2B => exact rfl); (case leE2B => exact rfl); (case leG2B => exact rfl))
            | refine wpList_storeE SR _ _ rfl rfl rfl rfl ?_
            | (at_builtin; refine wpList_pushJ rfl (.tmp 43) (.tmp 46) 43 3 1 8 _ rfl Try.underlying43 info_intK rfl (by decide) W7 (w.heap.size + 2) (.slice A m c) m (xs.map (.int .i64)) #[.int .i64 ((x : Nat) : Int)] rfl HS7.out.own rfl rfl (by simp [Value.oneCell']) (by omega) (by decide) HS7.out.sz ?_; intro b c5 W8 ho hgr hb5 hat; have HS8 := Lib.hid (HS7.out.push HXW.out hgr ho); clear ho hgr hb5 hat LP SR))
          go_roundw
          case rel => exact ⟨j + 1, k, sd, _, _, _, _, m + 1, _, by omega, by omega, rfl, by go_num, HS8, hv4⟩
          case measure => simp [intOf]; omega
        · obtain ⟨rfl, rfl⟩ := lisR_stop hv.out (.inr he)
          have hvb : (s'.e == 0) = false := by simpa using he
          clear hv he
          have LP := load_I hn.out.ig
          obtain ⟨W9, SR, k9, t9⟩ := store_I (l := l') (wy := wy') (e := s'.e) hn.out.ir rfl
          have K9 := Lib.hid k9
          have T9 := Lib.hid t9
          clear k9 t9
          go_wp2_with (first
            | ((with_reducible refine wpList_loadE (op := ⟨some 48, _, _, _, _, _⟩) LP ?leX3BF ?leG3BF ?leO3BF ?leE3BF ?_); (case leO3BF => exact rfl); (case leE3BF => exact rfl); (case leG3BF => exact rfl))
            | refine wpList_storeE SR _ _ rfl rfl rfl rfl ?_)
          refine bodyPost_ret (v := .tuple #[.agg #[.string (strOfNums l'), .int .i64 wy', .int .i64 s'.e], .slice A m c]) (results_row11 Try.results55 _ rfl K9.out Try.underlying73 rfl tyI) rfl ?_
          rw [HE.out]
          exact ⟨l', wy', A, m, c, rfl, hn.out.iv, ownsRow_tchJ hn.out.own T9.out fun k hk => (by have := (hn.out.own.lt k hk).1; omega), hn.out.len, by omega, hn.out.wf, hn.out.bel.trans (T9.out.below hn.out.bel.size fun k hk => by omega)⟩
end Go.Proofs.Ytbpcddimnbjoeaa
