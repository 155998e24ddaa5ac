/- Scripts: comparisons. (Printed by tools/genScX.py.) -/
import Derived.Test.YtillmlaoppibfaaDoorScG
import Derived.Test.YtillmlaoppibfaaDoorSame
import Derived.Test.YtillmlaoppibfaaDoorRow
namespace Go.Proofs.YtillmlaoppibfaaDoor
open Go.RowKit
theorem alloc_sizeX (w : World) (o : Obj) : (w.alloc o).heap.size = w.heap.size + 1 := by show (w.heap.push o).size = _; rw [Array.size_push]
theorem bel_boxX (w : World) (o : Obj) : Below w.heap.size w (w.alloc o) := (Below.refl _ w).alloc (Nat.le_refl _) _
set_option maxHeartbeats 400000 in
theorem eq_i32 (A B : Option Addr) (n m c d L : Nat) (xs ys : List Int) (w : World) (hx : Rd w L A n (xs.map (.int .i32))) (hy : Rd w L B m (ys.map (.int .i32))) (hn : n ≤ 4611686018427387904) (hm : m ≤ 4611686018427387904) :
    Calls Tryd.prog 33 #[.slice A n c, .slice B m d] w fun e w' => e = .returned (.bool (sameB xs ys)) ∧ ∃ q, w' = w.drewN q := by
  have lx := hx.lenI
  have ly := hy.lenI
  by_cases hl : n = m
  · subst hl
    have HX := Lib.hid hx
    have HY := Lib.hid hy
    have LX := Lib.hid lx
    have LY := Lib.hid ly
    clear hx hy lx ly
    go_enter Tryd.func33, Tryd.ntmps33
    go_wp2
    go_loopw [13] (fun i wr => ∃ k : Nat, k ≤ n ∧ i = .int .i64 k ∧ (∃ q, wr = w.drewN q) ∧ Hid (∀ j, j < k → ig xs j = ig ys j)) (fun i _ => n - (intOf i).toNat)
    case atStart => exact ⟨0, Nat.zero_le _, rfl, ⟨0, rfl⟩, fun j hj => by omega⟩
    case round =>
      obtain ⟨k, hk, rfl, ⟨q, rfl⟩, hv⟩ := hrel
      by_cases hlt : k < n
      · obtain ⟨b, o, rfl, hb, hc⟩ := HX.out.atI hlt
        obtain ⟨b', o', rfl, hb', hc'⟩ := HY.out.atI hlt
        by_cases he : ig xs k = ig ys k
        · have h1 : (ig xs k != ig ys k) = false := by simp [he]
          have HE := Lib.hid he
          clear he
          go_wp2
          go_quiet (fail)
          go_wp2
          go_roundw
          case rel => exact ⟨k + 1, by omega, by go_num, ⟨_, rfl⟩, fun j hj => by
            rcases Nat.lt_or_ge j k with h | h
            · exact hv.out j h
            · obtain rfl : j = k := by omega
              exact HE.out⟩
          case measure => simp [intOf]; omega
        · have h1 : (ig xs k != ig ys k) = true := by simp [he]
          have HE := Lib.hid he
          clear he
          go_wp2
          go_quiet (fail)
          go_wp2
          go_ret
          exact ⟨ret_bool (decide_eq_false fun e => HE.out (by rw [e])).symm, ⟨_, World.drewN_drewN ..⟩⟩
      · go_wp2
        go_ret
        exact ⟨ret_bool (decide_eq_true (ext_getD (LX.out.trans LY.out.symm) fun j hj => hv.out j (by have := LX.out; omega))).symm, ⟨_, rfl⟩⟩
  · have hne : ((n : Int) != m) = true := by simp; omega
    have HX := Lib.hid lx
    have HY := Lib.hid ly
    have HL := Lib.hid hl
    clear hx hy lx ly hl
    go_enter Tryd.func33, Tryd.ntmps33
    go_wp2
    go_ret
    exact ⟨ret_bool (decide_eq_false fun e => HL.out (by rw [← HX.out, ← HY.out, e])).symm, ⟨0, rfl⟩⟩
set_option maxHeartbeats 400000 in
theorem rf_same (A B : Option Addr) (n m c d L : Nat) (xs ys : List Int) (w : World) (hx : Rd w L A n (xs.map (.int .i32))) (hy : Rd w L B m (ys.map (.int .i32))) (hn : n ≤ 4611686018427387904) (hm : m ≤ 4611686018427387904) :
    Calls Tryd.prog 42 #[.slice A n c, .slice B m d] w fun e w' => e = .returned (.bool (sameB xs ys)) ∧ ∃ q, w' = w.drewN q := by
  have lx := hx.lenI
  have ly := hy.lenI
  by_cases hl : n = m
  · subst hl
    have HX := Lib.hid hx
    have HY := Lib.hid hy
    have LX := Lib.hid lx
    have LY := Lib.hid ly
    clear hx hy lx ly
    go_enter Tryd.func42, Tryd.ntmps42
    go_wp2
    go_loopw [13] (fun i wr => ∃ k : Nat, k ≤ n ∧ i = .int .i64 k ∧ (∃ q, wr = w.drewN q) ∧ Hid (∀ j, j < k → ig xs j = ig ys j)) (fun i _ => n - (intOf i).toNat)
    case atStart => exact ⟨0, Nat.zero_le _, rfl, ⟨0, rfl⟩, fun j hj => by omega⟩
    case round =>
      obtain ⟨k, hk, rfl, ⟨q, rfl⟩, hv⟩ := hrel
      by_cases hlt : k < n
      · obtain ⟨b, o, rfl, hb, hc⟩ := HX.out.atI hlt
        obtain ⟨b', o', rfl, hb', hc'⟩ := HY.out.atI hlt
        by_cases he : ig xs k = ig ys k
        · have h1 : (ig xs k != ig ys k) = false := by simp [he]
          have HE := Lib.hid he
          clear he
          go_wp2
          go_quiet (fail)
          go_wp2
          go_roundw
          case rel => exact ⟨k + 1, by omega, by go_num, ⟨_, rfl⟩, fun j hj => by
            rcases Nat.lt_or_ge j k with h | h
            · exact hv.out j h
            · obtain rfl : j = k := by omega
              exact HE.out⟩
          case measure => simp [intOf]; omega
        · have h1 : (ig xs k != ig ys k) = true := by simp [he]
          have HE := Lib.hid he
          clear he
          go_wp2
          go_quiet (fail)
          go_wp2
          go_ret
          exact ⟨ret_bool (decide_eq_false fun e => HE.out (by rw [e])).symm, ⟨_, World.drewN_drewN ..⟩⟩
      · go_wp2
        go_ret
        exact ⟨ret_bool (decide_eq_true (ext_getD (LX.out.trans LY.out.symm) fun j hj => hv.out j (by have := LX.out; omega))).symm, ⟨_, rfl⟩⟩
  · have hne : ((n : Int) != m) = true := by simp; omega
    have HX := Lib.hid lx
    have HY := Lib.hid ly
    have HL := Lib.hid hl
    clear hx hy lx ly hl
    go_enter Tryd.func42, Tryd.ntmps42
    go_wp2
    go_ret
    exact ⟨ret_bool (decide_eq_false fun e => HL.out (by rw [← HX.out, ← HY.out, e])).symm, ⟨0, rfl⟩⟩
/-- A call's cells: all but the worker; its vector at V. -/
def callC (a : SAct) (V : Option Addr) (n c : Nat) : Array Value := #[.int .i64 a.kd, .int .u64 a.id, .slice V n c, .int .u64 a.tg, .int .i64 a.k, .int .i64 a.ef, .int .u64 a.dr]
/-- Whether two calls are one. -/
def plainB (a b : SAct) : Bool := (a.kd == b.kd) && ((a.id : Int) == b.id) && ((a.tg : Int) == b.tg) && sameB a.vec b.vec && (a.k == b.k) && (a.ef == b.ef) && ((a.dr : Int) == b.dr)
theorem plainB_iff (a b : SAct) : plainB a b = true ↔ { a with wk := 0 } = { b with wk := 0 } := by
  obtain ⟨w1, k1, i1, v1, t1, q1, e1, d1⟩ := a
  obtain ⟨w2, k2, i2, v2, t2, q2, e2, d2⟩ := b
  simp only [plainB, sameB, Bool.and_eq_true, beq_iff_eq, decide_eq_true_eq, SAct.mk.injEq, true_and]
  constructor
  · rintro ⟨⟨⟨⟨⟨⟨h1, h2⟩, h3⟩, h4⟩, h5⟩, h6⟩, h7⟩
    exact ⟨h1, by omega, h4, by omega, h5, h6, by omega⟩
  · rintro ⟨h1, h2, h4, h3, h5, h6, h7⟩
    exact ⟨⟨⟨⟨⟨⟨h1, by omega⟩, by omega⟩, h4⟩, h5⟩, h6⟩, by omega⟩
set_option maxHeartbeats 4000000 in
set_option maxRecDepth 100000 in
theorem sc_plain (a b : SAct) (V U : Option Addr) (vn vc un uc : Nat) (w : World) (hV : Rd w w.heap.size V vn (a.vec.map (.int .i32))) (hU : Rd w w.heap.size U un (b.vec.map (.int .i32))) (hvn : vn ≤ 4611686018427387904) (hun : un ≤ 4611686018427387904) :
    Calls Tryd.prog 23 #[.agg (callC a V vn vc), .agg (callC b U un uc)] w fun e w' => e = .returned (.bool (plainB a b)) ∧ Below w.heap.size w w' := by
  obtain ⟨b4, h4⟩ : ∃ q, sameB a.vec b.vec = q := ⟨_, rfl⟩
  have HQE : Hid (∀ W, Below w.heap.size w W → Calls Tryd.prog 33 #[.slice V vn vc, .slice U un uc] W fun e w' => e = .returned (.bool b4) ∧ Below W.heap.size W w') := fun W hW => by
    rw [← h4]
    exact (eq_i32 V U vn un vc uc w.heap.size a.vec b.vec W (hV.below hW) (hU.below hW) hvn hun).mono fun e w' ⟨p, q, r⟩ => ⟨p, by rw [r]; exact below_drewN (Below.refl _ W) q⟩
  unfold plainB callC
  rw [h4]
  clear hV hU h4
  obtain ⟨w1, k1, i1, v1, t1, q1, e1, d1⟩ := a
  obtain ⟨w2, k2, i2, v2, t2, q2, e2, d2⟩ := b
  simp only at HQE ⊢
  generalize (i1 : Int) = i1 at *
  generalize (i2 : Int) = i2 at *
  generalize (t1 : Int) = t1 at *
  generalize (t2 : Int) = t2 at *
  generalize (d1 : Int) = d1 at *
  generalize (d2 : Int) = d2 at *
  obtain ⟨b1, h1⟩ : ∃ q, (k1 == k2) = q := ⟨_, rfl⟩
  obtain ⟨b2, h2⟩ : ∃ q, (i1 == i2) = q := ⟨_, rfl⟩
  obtain ⟨b3, h3⟩ : ∃ q, (t1 == t2) = q := ⟨_, rfl⟩
  obtain ⟨b5, h5⟩ : ∃ q, (q1 == q2) = q := ⟨_, rfl⟩
  obtain ⟨b6, h6⟩ : ∃ q, (e1 == e2) = q := ⟨_, rfl⟩
  obtain ⟨b7, h7⟩ : ∃ q, (d1 == d2) = q := ⟨_, rfl⟩
  rw [h1, h2, h3, h5, h6, h7]
  have HB2 : Hid (∀ o o', Below w.heap.size w ((w.alloc o).alloc o')) := fun o o' => (bel_boxX w o).trans ((bel_boxX _ o').mono (bel_boxX w o).size)
  have HW : Hid (∀ W, Below (w.heap.size + 2) (((w.alloc (.cells #[.int .i64 k1, .int .u64 i1, .slice V vn vc, .int .u64 t1, .int .i64 q1, .int .i64 e1, .int .u64 d1] 38)).alloc (.cells #[.int .i64 k2, .int .u64 i2, .slice U un uc, .int .u64 t2, .int .i64 q2, .int .i64 e2, .int .u64 d2] 38))) W → W.cell? ⟨w.heap.size, 4, none⟩ = some (.int .i64 q1) ∧ W.cell? ⟨w.heap.size, 5, none⟩ = some (.int .i64 e1) ∧ W.cell? ⟨w.heap.size, 6, none⟩ = some (.int .u64 d1) ∧ W.cell? ⟨w.heap.size + 1, 4, none⟩ = some (.int .i64 q2) ∧ W.cell? ⟨w.heap.size + 1, 5, none⟩ = some (.int .i64 e2) ∧ W.cell? ⟨w.heap.size + 1, 6, none⟩ = some (.int .u64 d2)) := fun W hW => by
    have m1 : Blk (((w.alloc (.cells #[.int .i64 k1, .int .u64 i1, .slice V vn vc, .int .u64 t1, .int .i64 q1, .int .i64 e1, .int .u64 d1] 38)).alloc (.cells #[.int .i64 k2, .int .u64 i2, .slice U un uc, .int .u64 t2, .int .i64 q2, .int .i64 e2, .int .u64 d2] 38))) w.heap.size 38 #[.int .i64 k1, .int .u64 i1, .slice V vn vc, .int .u64 t1, .int .i64 q1, .int .i64 e1, .int .u64 d1] := (Blk.new w _ _).alloc _
    have m2 : Blk (((w.alloc (.cells #[.int .i64 k1, .int .u64 i1, .slice V vn vc, .int .u64 t1, .int .i64 q1, .int .i64 e1, .int .u64 d1] 38)).alloc (.cells #[.int .i64 k2, .int .u64 i2, .slice U un uc, .int .u64 t2, .int .i64 q2, .int .i64 e2, .int .u64 d2] 38))) (w.heap.size + 1) 38 #[.int .i64 k2, .int .u64 i2, .slice U un uc, .int .u64 t2, .int .i64 q2, .int .i64 e2, .int .u64 d2] := by
      have := Blk.new (w.alloc (.cells #[.int .i64 k1, .int .u64 i1, .slice V vn vc, .int .u64 t1, .int .i64 q1, .int .i64 e1, .int .u64 d1] 38)) 38 #[.int .i64 k2, .int .u64 i2, .slice U un uc, .int .u64 t2, .int .i64 q2, .int .i64 e2, .int .u64 d2]
      rwa [alloc_sizeX] at this
    have j1 := m1.below hW (by omega)
    have j2 := m2.below hW (by omega)
    exact ⟨j1.cell 4, j1.cell 5, j1.cell 6, j2.cell 4, j2.cell 5, j2.cell 6⟩
  have HSZ : Hid (((w.alloc (.cells #[.int .i64 k1, .int .u64 i1, .slice V vn vc, .int .u64 t1, .int .i64 q1, .int .i64 e1, .int .u64 d1] 38)).alloc (.cells #[.int .i64 k2, .int .u64 i2, .slice U un uc, .int .u64 t2, .int .i64 q2, .int .i64 e2, .int .u64 d2] 38)).heap.size = w.heap.size + 2) := by show _ = _; rw [alloc_sizeX, alloc_sizeX]
  have HQ : ∀ Q : Ending → World → Prop, Hid (Q = fun e w' => e = .returned (.bool (b1 && b2 && b3 && b4 && b5 && b6 && b7)) ∧ Below w.heap.size w w') → Calls Tryd.prog 23 #[.agg #[.int .i64 k1, .int .u64 i1, .slice V vn vc, .int .u64 t1, .int .i64 q1, .int .i64 e1, .int .u64 d1], .agg #[.int .i64 k2, .int .u64 i2, .slice U un uc, .int .u64 t2, .int .i64 q2, .int .i64 e2, .int .u64 d2]] w Q := by
    intro Q hQ
    cases b1 with
    | false =>
      go_enter Tryd.func23, Tryd.ntmps23
      go_wp2
      rw [hQ.out]
      exact ⟨rfl, HB2.out _ _⟩
    | true =>
      cases b2 with
      | false =>
        go_enter Tryd.func23, Tryd.ntmps23
        go_wp2
        rw [hQ.out]
        exact ⟨rfl, HB2.out _ _⟩
      | true =>
        cases b3 with
        | false =>
          go_enter Tryd.func23, Tryd.ntmps23
          go_wp2
          rw [hQ.out]
          exact ⟨rfl, HB2.out _ _⟩
        | true =>
          cases b4 with
          | false =>
            go_enter Tryd.func23, Tryd.ntmps23
            go_wp2_with (go_at_call 33; with_reducible refine (HQE.out _ (HB2.out _ _)).mono ?_; rintro e w' ⟨rfl, hb⟩; obtain ⟨g1, g2, g3, g4, g5, g6⟩ := HW.out w' (by rw [← HSZ.out]; exact hb))
            rw [hQ.out]
            exact ⟨rfl, (HB2.out _ _).trans (hb.mono (HB2.out _ _).size)⟩
          | true =>
            cases b5 with
            | false =>
              go_enter Tryd.func23, Tryd.ntmps23
              go_wp2_with (go_at_call 33; with_reducible refine (HQE.out _ (HB2.out _ _)).mono ?_; rintro e w' ⟨rfl, hb⟩; obtain ⟨g1, g2, g3, g4, g5, g6⟩ := HW.out w' (by rw [← HSZ.out]; exact hb))
              rw [hQ.out]
              exact ⟨rfl, (HB2.out _ _).trans (hb.mono (HB2.out _ _).size)⟩
            | true =>
              cases b6 with
              | false =>
                go_enter Tryd.func23, Tryd.ntmps23
                go_wp2_with (go_at_call 33; with_reducible refine (HQE.out _ (HB2.out _ _)).mono ?_; rintro e w' ⟨rfl, hb⟩; obtain ⟨g1, g2, g3, g4, g5, g6⟩ := HW.out w' (by rw [← HSZ.out]; exact hb))
                rw [hQ.out]
                exact ⟨rfl, (HB2.out _ _).trans (hb.mono (HB2.out _ _).size)⟩
              | true =>
                cases b7 with
                | false =>
                  go_enter Tryd.func23, Tryd.ntmps23
                  go_wp2_with (go_at_call 33; with_reducible refine (HQE.out _ (HB2.out _ _)).mono ?_; rintro e w' ⟨rfl, hb⟩; obtain ⟨g1, g2, g3, g4, g5, g6⟩ := HW.out w' (by rw [← HSZ.out]; exact hb))
                  rw [hQ.out]
                  exact ⟨rfl, (HB2.out _ _).trans (hb.mono (HB2.out _ _).size)⟩
                | true =>
                  go_enter Tryd.func23, Tryd.ntmps23
                  go_wp2_with (go_at_call 33; with_reducible refine (HQE.out _ (HB2.out _ _)).mono ?_; rintro e w' ⟨rfl, hb⟩; obtain ⟨g1, g2, g3, g4, g5, g6⟩ := HW.out w' (by rw [← HSZ.out]; exact hb))
                  rw [hQ.out]
                  exact ⟨rfl, (HB2.out _ _).trans (hb.mono (HB2.out _ _).size)⟩
  exact HQ _ rfl
/-- Whether two items are one. -/
def itemB (a b : SAct) : Bool := ((a.id : Int) == b.id) && ((a.tg : Int) == b.tg) && sameB a.vec b.vec
theorem plain_item (a b : SAct) : plainB a b = ((a.kd == b.kd) && itemB a b && (a.k == b.k) && (a.ef == b.ef) && ((a.dr : Int) == b.dr)) := by
  unfold plainB itemB
  simp only [Bool.and_assoc]
set_option maxHeartbeats 4000000 in
set_option maxRecDepth 100000 in
theorem rf_item (a b : SAct) (V U : Option Addr) (vn vc un uc : Nat) (w : World) (hV : Rd w w.heap.size V vn (a.vec.map (.int .i32))) (hU : Rd w w.heap.size U un (b.vec.map (.int .i32))) (hvn : vn ≤ 4611686018427387904) (hun : un ≤ 4611686018427387904) :
    Calls Tryd.prog 29 #[.agg #[.int .u64 a.id, .slice V vn vc, .int .u64 a.tg], .agg #[.int .u64 b.id, .slice U un uc, .int .u64 b.tg]] w fun e w' => e = .returned (.bool (itemB a b)) ∧ Below w.heap.size w w' := by
  obtain ⟨b4, h4⟩ : ∃ q, sameB a.vec b.vec = q := ⟨_, rfl⟩
  have HQE : Hid (∀ W, Below w.heap.size w W → Calls Tryd.prog 42 #[.slice V vn vc, .slice U un uc] W fun e w' => e = .returned (.bool b4) ∧ Below W.heap.size W w') := fun W hW => by
    rw [← h4]
    exact (rf_same V U vn un vc uc w.heap.size a.vec b.vec W (hV.below hW) (hU.below hW) hvn hun).mono fun e w' ⟨p, q, r⟩ => ⟨p, by rw [r]; exact below_drewN (Below.refl _ W) q⟩
  unfold itemB
  rw [h4]
  clear hV hU h4
  obtain ⟨w1, k1, i1, v1, t1, q1, e1, d1⟩ := a
  obtain ⟨w2, k2, i2, v2, t2, q2, e2, d2⟩ := b
  simp only at HQE ⊢
  generalize (i1 : Int) = i1 at *
  generalize (i2 : Int) = i2 at *
  generalize (t1 : Int) = t1 at *
  generalize (t2 : Int) = t2 at *
  obtain ⟨b2, h2⟩ : ∃ q, (i1 == i2) = q := ⟨_, rfl⟩
  obtain ⟨b3, h3⟩ : ∃ q, (t1 == t2) = q := ⟨_, rfl⟩
  rw [h2, h3]
  have HB2 : Hid (∀ o o', Below w.heap.size w ((w.alloc o).alloc o')) := fun o o' => (bel_boxX w o).trans ((bel_boxX _ o').mono (bel_boxX w o).size)
  have HQ : ∀ Q : Ending → World → Prop, Hid (Q = fun e w' => e = .returned (.bool (b2 && b3 && b4)) ∧ Below w.heap.size w w') → Calls Tryd.prog 29 #[.agg #[.int .u64 i1, .slice V vn vc, .int .u64 t1], .agg #[.int .u64 i2, .slice U un uc, .int .u64 t2]] w Q := by
    intro Q hQ
    cases b2 with
    | false =>
      go_enter Tryd.func29, Tryd.ntmps29
      go_wp2
      rw [hQ.out]
      exact ⟨rfl, HB2.out _ _⟩
    | true =>
      cases b3 with
      | false =>
        go_enter Tryd.func29, Tryd.ntmps29
        go_wp2
        rw [hQ.out]
        exact ⟨rfl, HB2.out _ _⟩
      | true =>
        cases b4 with
        | false =>
          go_enter Tryd.func29, Tryd.ntmps29
          go_wp2_with (go_at_call 42; with_reducible refine (HQE.out _ (HB2.out _ _)).mono ?_; rintro e w' ⟨rfl, hb⟩)
          rw [hQ.out]
          exact ⟨rfl, (HB2.out _ _).trans (hb.mono (HB2.out _ _).size)⟩
        | true =>
          go_enter Tryd.func29, Tryd.ntmps29
          go_wp2_with (go_at_call 42; with_reducible refine (HQE.out _ (HB2.out _ _)).mono ?_; rintro e w' ⟨rfl, hb⟩)
          rw [hQ.out]
          exact ⟨rfl, (HB2.out _ _).trans (hb.mono (HB2.out _ _).size)⟩
  exact HQ _ rfl
set_option maxHeartbeats 4000000 in
set_option maxRecDepth 100000 in
theorem rf_call (a b : SAct) (V U : Option Addr) (vn vc un uc : Nat) (w : World) (hV : Rd w w.heap.size V vn (a.vec.map (.int .i32))) (hU : Rd w w.heap.size U un (b.vec.map (.int .i32))) (hvn : vn ≤ 4611686018427387904) (hun : un ≤ 4611686018427387904) :
    Calls Tryd.prog 17 #[.agg (callC a V vn vc), .agg (callC b U un uc)] w fun e w' => e = .returned (.bool (plainB a b)) ∧ Below w.heap.size w w' := by
  obtain ⟨b4, h4⟩ : ∃ q, itemB a b = q := ⟨_, rfl⟩
  have HQE : Hid (∀ W, Below w.heap.size w W → Calls Tryd.prog 29 #[.agg #[.int .u64 a.id, .slice V vn vc, .int .u64 a.tg], .agg #[.int .u64 b.id, .slice U un uc, .int .u64 b.tg]] W fun e w' => e = .returned (.bool b4) ∧ Below W.heap.size W w') := fun W hW => by
    rw [← h4]
    exact rf_item a b V U vn vc un uc W ((hV.below hW).more hW.size) ((hU.below hW).more hW.size) hvn hun
  rw [plain_item]
  unfold callC
  rw [h4]
  clear hV hU h4
  obtain ⟨w1, k1, i1, v1, t1, q1, e1, d1⟩ := a
  obtain ⟨w2, k2, i2, v2, t2, q2, e2, d2⟩ := b
  simp only at HQE ⊢
  generalize (i1 : Int) = i1 at *
  generalize (i2 : Int) = i2 at *
  generalize (t1 : Int) = t1 at *
  generalize (t2 : Int) = t2 at *
  generalize (d1 : Int) = d1 at *
  generalize (d2 : Int) = d2 at *
  obtain ⟨b1, h1⟩ : ∃ q, (k1 == k2) = q := ⟨_, rfl⟩
  obtain ⟨b5, h5⟩ : ∃ q, (q1 == q2) = q := ⟨_, rfl⟩
  obtain ⟨b6, h6⟩ : ∃ q, (e1 == e2) = q := ⟨_, rfl⟩
  obtain ⟨b7, h7⟩ : ∃ q, (d1 == d2) = q := ⟨_, rfl⟩
  rw [h1, h5, h6, h7]
  have HB2 : Hid (∀ o o', Below w.heap.size w ((w.alloc o).alloc o')) := fun o o' => (bel_boxX w o).trans ((bel_boxX _ o').mono (bel_boxX w o).size)
  have HW : Hid (∀ W, Below (w.heap.size + 2) (((w.alloc (.cells #[.int .i64 k1, .int .u64 i1, .slice V vn vc, .int .u64 t1, .int .i64 q1, .int .i64 e1, .int .u64 d1] 38)).alloc (.cells #[.int .i64 k2, .int .u64 i2, .slice U un uc, .int .u64 t2, .int .i64 q2, .int .i64 e2, .int .u64 d2] 38))) W → W.cell? ⟨w.heap.size, 4, none⟩ = some (.int .i64 q1) ∧ W.cell? ⟨w.heap.size, 5, none⟩ = some (.int .i64 e1) ∧ W.cell? ⟨w.heap.size, 6, none⟩ = some (.int .u64 d1) ∧ W.cell? ⟨w.heap.size + 1, 4, none⟩ = some (.int .i64 q2) ∧ W.cell? ⟨w.heap.size + 1, 5, none⟩ = some (.int .i64 e2) ∧ W.cell? ⟨w.heap.size + 1, 6, none⟩ = some (.int .u64 d2)) := fun W hW => by
    have m1 : Blk (((w.alloc (.cells #[.int .i64 k1, .int .u64 i1, .slice V vn vc, .int .u64 t1, .int .i64 q1, .int .i64 e1, .int .u64 d1] 38)).alloc (.cells #[.int .i64 k2, .int .u64 i2, .slice U un uc, .int .u64 t2, .int .i64 q2, .int .i64 e2, .int .u64 d2] 38))) w.heap.size 38 #[.int .i64 k1, .int .u64 i1, .slice V vn vc, .int .u64 t1, .int .i64 q1, .int .i64 e1, .int .u64 d1] := (Blk.new w _ _).alloc _
    have m2 : Blk (((w.alloc (.cells #[.int .i64 k1, .int .u64 i1, .slice V vn vc, .int .u64 t1, .int .i64 q1, .int .i64 e1, .int .u64 d1] 38)).alloc (.cells #[.int .i64 k2, .int .u64 i2, .slice U un uc, .int .u64 t2, .int .i64 q2, .int .i64 e2, .int .u64 d2] 38))) (w.heap.size + 1) 38 #[.int .i64 k2, .int .u64 i2, .slice U un uc, .int .u64 t2, .int .i64 q2, .int .i64 e2, .int .u64 d2] := by
      have := Blk.new (w.alloc (.cells #[.int .i64 k1, .int .u64 i1, .slice V vn vc, .int .u64 t1, .int .i64 q1, .int .i64 e1, .int .u64 d1] 38)) 38 #[.int .i64 k2, .int .u64 i2, .slice U un uc, .int .u64 t2, .int .i64 q2, .int .i64 e2, .int .u64 d2]
      rwa [alloc_sizeX] at this
    have j1 := m1.below hW (by omega)
    have j2 := m2.below hW (by omega)
    exact ⟨j1.cell 4, j1.cell 5, j1.cell 6, j2.cell 4, j2.cell 5, j2.cell 6⟩
  have HSZ : Hid (((w.alloc (.cells #[.int .i64 k1, .int .u64 i1, .slice V vn vc, .int .u64 t1, .int .i64 q1, .int .i64 e1, .int .u64 d1] 38)).alloc (.cells #[.int .i64 k2, .int .u64 i2, .slice U un uc, .int .u64 t2, .int .i64 q2, .int .i64 e2, .int .u64 d2] 38)).heap.size = w.heap.size + 2) := by show _ = _; rw [alloc_sizeX, alloc_sizeX]
  have HQ : ∀ Q : Ending → World → Prop, Hid (Q = fun e w' => e = .returned (.bool (b1 && b4 && b5 && b6 && b7)) ∧ Below w.heap.size w w') → Calls Tryd.prog 17 #[.agg #[.int .i64 k1, .int .u64 i1, .slice V vn vc, .int .u64 t1, .int .i64 q1, .int .i64 e1, .int .u64 d1], .agg #[.int .i64 k2, .int .u64 i2, .slice U un uc, .int .u64 t2, .int .i64 q2, .int .i64 e2, .int .u64 d2]] w Q := by
    intro Q hQ
    cases b1 with
    | false =>
      go_enter Tryd.func17, Tryd.ntmps17
      go_wp2
      rw [hQ.out]
      exact ⟨rfl, HB2.out _ _⟩
    | true =>
      cases b4 with
      | false =>
        go_enter Tryd.func17, Tryd.ntmps17
        go_wp2_with (go_at_call 29; with_reducible refine (HQE.out _ (HB2.out _ _)).mono ?_; rintro e w' ⟨rfl, hb⟩; obtain ⟨g1, g2, g3, g4, g5, g6⟩ := HW.out w' (by rw [← HSZ.out]; exact hb))
        rw [hQ.out]
        exact ⟨rfl, (HB2.out _ _).trans (hb.mono (HB2.out _ _).size)⟩
      | true =>
        cases b5 with
        | false =>
          go_enter Tryd.func17, Tryd.ntmps17
          go_wp2_with (go_at_call 29; with_reducible refine (HQE.out _ (HB2.out _ _)).mono ?_; rintro e w' ⟨rfl, hb⟩; obtain ⟨g1, g2, g3, g4, g5, g6⟩ := HW.out w' (by rw [← HSZ.out]; exact hb))
          rw [hQ.out]
          exact ⟨rfl, (HB2.out _ _).trans (hb.mono (HB2.out _ _).size)⟩
        | true =>
          cases b6 with
          | false =>
            go_enter Tryd.func17, Tryd.ntmps17
            go_wp2_with (go_at_call 29; with_reducible refine (HQE.out _ (HB2.out _ _)).mono ?_; rintro e w' ⟨rfl, hb⟩; obtain ⟨g1, g2, g3, g4, g5, g6⟩ := HW.out w' (by rw [← HSZ.out]; exact hb))
            rw [hQ.out]
            exact ⟨rfl, (HB2.out _ _).trans (hb.mono (HB2.out _ _).size)⟩
          | true =>
            cases b7 with
            | false =>
              go_enter Tryd.func17, Tryd.ntmps17
              go_wp2_with (go_at_call 29; with_reducible refine (HQE.out _ (HB2.out _ _)).mono ?_; rintro e w' ⟨rfl, hb⟩; obtain ⟨g1, g2, g3, g4, g5, g6⟩ := HW.out w' (by rw [← HSZ.out]; exact hb))
              rw [hQ.out]
              exact ⟨rfl, (HB2.out _ _).trans (hb.mono (HB2.out _ _).size)⟩
            | true =>
              go_enter Tryd.func17, Tryd.ntmps17
              go_wp2_with (go_at_call 29; with_reducible refine (HQE.out _ (HB2.out _ _)).mono ?_; rintro e w' ⟨rfl, hb⟩; obtain ⟨g1, g2, g3, g4, g5, g6⟩ := HW.out w' (by rw [← HSZ.out]; exact hb))
              rw [hQ.out]
              exact ⟨rfl, (HB2.out _ _).trans (hb.mono (HB2.out _ _).size)⟩
  exact HQ _ rfl
end Go.Proofs.YtillmlaoppibfaaDoor
