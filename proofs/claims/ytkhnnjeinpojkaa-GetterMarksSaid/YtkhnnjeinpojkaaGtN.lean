/- Getter: (*Task).Next, Marks, Told. -/
import Derived.Test.YtkhnnjeinpojkaaGtH
namespace Go.Proofs.Ytkhnnjeinpojkaa
open Go.RowKit
/-- What Next says. -/
def RetN (T : Nat) (c : Tk) (w : World) (k a n id : Int) (b : Bool) (P : World → Ts → Prop) (e : Ending) (w' : World) : Prop :=
  e = .returned (.tuple #[.agg (opA k a n id), .bool b]) ∧ (∃ s, TaskAt w' T c s ∧ P w' s) ∧ Tch (fun k => k = T) w w'
theorem taskA_op (c : Tk) (s : Ts) (k a n id : Int) : ((((((((((taskA c s).setIfInBounds 8 (.int .i64 k)).setIfInBounds 9 (.int .i64 a)).setIfInBounds 10 (.int .i64 0)).setIfInBounds 11 (.int .i64 n)).setIfInBounds 12 (.int .i64 0)).setIfInBounds 13 (.int .u64 id)).setIfInBounds 14 (.slice none 0 0)).setIfInBounds 15 (.int .u64 0)).setIfInBounds 16 (.slice none 0 0)).setIfInBounds 17 (.int .u64 0) = taskA c { s with ok := k, oa := a, on := n, oid := id } := by
  apply Array.ext'
  simp only [Array.toList_setIfInBounds]
  rfl
theorem op_chain (w : World) (r o : Nat) (k a n id : Int) : World.setCells w r o (opL k a n id) = (((((((((w.setCell ⟨r, o, none⟩ (.int .i64 k)).setCell ⟨r, o + 1, none⟩ (.int .i64 a)).setCell ⟨r, o + 2, none⟩ (.int .i64 0)).setCell ⟨r, o + 3, none⟩ (.int .i64 n)).setCell ⟨r, o + 4, none⟩ (.int .i64 0)).setCell ⟨r, o + 5, none⟩ (.int .u64 id)).setCell ⟨r, o + 6, none⟩ (.slice none 0 0)).setCell ⟨r, o + 7, none⟩ (.int .u64 0)).setCell ⟨r, o + 8, none⟩ (.slice none 0 0)).setCell ⟨r, o + 9, none⟩ (.int .u64 0) := rfl
/-- Behind a store of an operation. -/
theorem TaskAt.op {w : World} {T : Nat} {c : Tk} {s : Ts} (h : TaskAt w T c s) (k a n id : Int) : TaskAt (World.setCells w T 8 (opL k a n id)) T c { s with ok := k, oa := a, on := n, oid := id } := by
  rw [op_chain]
  unfold TaskAt
  rw [← taskA_op]
  exact Blk.set_ (Blk.set_ (Blk.set_ (Blk.set_ (Blk.set_ (Blk.set_ (Blk.set_ (Blk.set_ (Blk.set_ (Blk.set_ h 8 _) 9 _) 10 _) 11 _) 12 _) 13 _) 14 _) 15 _) 16 _) 17 _
/-- The cells of a task that Next meets. -/
theorem TaskAt.cells {w : World} {T : Nat} {c : Tk} {s : Ts} (h : TaskAt w T c s) :
    (w.cell? ⟨T, 8, none⟩ = some (.int .i64 s.ok) ∧ w.cell? ⟨T, 9, none⟩ = some (.int .i64 s.oa) ∧ w.cell? ⟨T, 10, none⟩ = some (.int .i64 0) ∧ w.cell? ⟨T, 11, none⟩ = some (.int .i64 s.on) ∧ w.cell? ⟨T, 12, none⟩ = some (.int .i64 0) ∧
    w.cell? ⟨T, 13, none⟩ = some (.int .u64 s.oid) ∧ w.cell? ⟨T, 14, none⟩ = some (.slice none 0 0) ∧ w.cell? ⟨T, 15, none⟩ = some (.int .u64 0) ∧ w.cell? ⟨T, 16, none⟩ = some (.slice none 0 0) ∧ w.cell? ⟨T, 17, none⟩ = some (.int .u64 0)) ∧
    w.cell? ⟨T, 18, none⟩ = some (.bool s.begun) ∧ w.cell? ⟨T, 19, none⟩ = some (.bool s.ended) ∧ w.cell? ⟨T, 0, none⟩ = some (.int .i64 c.k) ∧ ∀ i, w.frozen? ⟨T, i, none⟩ = false :=
  ⟨⟨h.cell 8, h.cell 9, h.cell 10, h.cell 11, h.cell 12, h.cell 13, h.cell 14, h.cell 15, h.cell 16, h.cell 17⟩, h.cell 18, h.cell 19, h.cell 0, h.frozen⟩
set_option maxRecDepth 100000 in
set_option maxHeartbeats 4000000 in
theorem next_go (T : Nat) (c : Tk) (s : Ts) (ok : Bool) (gn gm : Int) (gL : Value) (gid : Int) (gV : Value) (gt : Int) (w : World) (h : TaskAt w T c s) (hb : s.begun = true) (he : s.ended = false) (k a n id : Int) (z : Bool) (hz : (k == 0) = z) (P : World → World → Ts → Prop) (P' : World → Ts → Prop)
    (HF : ∀ w2, TaskAt w2 T c s → Below w.heap.size w w2 → w2.heap.size = w.heap.size + 2 → Calls Try.prog 66 #[.pointer (some ⟨T, 0, none⟩), .agg (gotL ok gn gm gL gid gV gt)] w2 (RetF T c w2 k a n id (P w2)))
    (HP : ∀ w2 w3 w7 s', w2.heap.size = w.heap.size + 2 → P w2 w3 s' → Tch (fun k => k = T ∨ k = w.heap.size + 1) w3 w7 → P' w7 { s' with ok := k, oa := a, on := n, oid := id, begun := true, ended := z }) :
    Calls Try.prog 15 #[.pointer (some ⟨T, 0, none⟩), .agg (gotL ok gn gm gL gid gV gt)] w (RetN T c w k a n id (!z) P') := by
  have hT := h.lt
  have hne1 : T ≠ w.heap.size := by omega
  have hne2 : T ≠ w.heap.size + 1 := by omega
  have hs1 : (w.alloc (.cells (gotL ok gn gm gL gid gV gt) 42)).heap.size = w.heap.size + 1 := by simp only [World.alloc, Array.size_push]
  obtain ⟨w2, hw2⟩ : ∃ x, (w.alloc (.cells (gotL ok gn gm gL gid gV gt) 42)).alloc (.cells (opA 0 0 0 0) 44) = x := ⟨_, rfl⟩
  have K2 : TaskAt w2 T c s := by rw [← hw2]; exact Blk.alloc (Blk.alloc h _) _
  have KG : Blk w2 w.heap.size 42 (gotL ok gn gm gL gid gV gt) := by rw [← hw2]; exact (Blk.new w 42 (gotL ok gn gm gL gid gV gt)).alloc (.cells (opA 0 0 0 0) 44)
  have KR : Blk w2 (w.heap.size + 1) 44 (opA 0 0 0 0) := by
    have := op_new (w.alloc (.cells (gotL ok gn gm gL gid gV gt) 42)) 0 0 0 0
    rw [hs1] at this; rw [← hw2]; exact this
  have b2 : Below w.heap.size w w2 := by rw [← hw2]; exact ((Below.refl _ w).alloc (Nat.le_refl _) _).alloc (by rw [hs1]; omega) _
  have hs2 : w2.heap.size = w.heap.size + 2 := by rw [← hw2]; simp only [World.alloc, Array.size_push]
  have T2 : Tch (fun k => k = T) w w2 := Tch.of_below b2
  have c18 : w2.cell? ⟨T, 18, none⟩ = some (.bool s.begun) := K2.cell 18
  have c19 : w2.cell? ⟨T, 19, none⟩ = some (.bool s.ended) := K2.cell 19
  have c0 : w2.cell? ⟨T, 0, none⟩ = some (.int .i64 c.k) := K2.cell 0
  have g0 : w2.cell? ⟨w.heap.size, 0, none⟩ = some (.bool ok) := KG.cell 0
  have g1 : w2.cell? ⟨w.heap.size, 1, none⟩ = some (.int .i64 gn) := KG.cell 1
  have g2 : w2.cell? ⟨w.heap.size, 2, none⟩ = some (.int .i64 gm) := KG.cell 2
  have g3 : w2.cell? ⟨w.heap.size, 3, none⟩ = some gL := KG.cell 3
  have g4 : w2.cell? ⟨w.heap.size, 4, none⟩ = some (.int .u64 gid) := KG.cell 4
  have g5 : w2.cell? ⟨w.heap.size, 5, none⟩ = some gV := KG.cell 5
  have g6 : w2.cell? ⟨w.heap.size, 6, none⟩ = some (.int .u64 gt) := KG.cell 6
  rw [hb] at c18
  rw [he] at c19
  have HC := Lib.hid (HF w2 K2 b2 hs2)
  have HKR := Lib.hid KR
  have HT2 := Lib.hid T2
  clear K2 KR T2 b2 HF hb he
  clear h hs1 KG
  unfold gotL opA at hw2
  unfold gotL at HC ⊢
  go_enter Try.func15, Try.ntmps15
  go_upto_region 1 with fail
  (try rw [hw2])
  clear hw2
  go_wp2_with fail
  refine HC.out.mono ?_
  rintro e w3 ⟨rfl, ⟨s', K3, p3⟩, t3⟩
  replace p3 := Lib.hid p3
  have KR3 : Blk w3 (w.heap.size + 1) 44 (opA 0 0 0 0) := HKR.out.tch t3 (fun e => hne2 e.symm)
  have T3 : Tch (fun k => k = T) w w3 := HT2.out.trans t3 fun _ q => .inl q
  clear HC HKR HT2 t3 c0 c18 c19 g0 g1 g2 g3 g4 g5 g6
  unfold opA
  have K4 := TaskAt.op K3 k a n id
  have KR4 : Blk (World.setCells w3 T 8 (opL k a n id)) (w.heap.size + 1) 44 (opA 0 0 0 0) := KR3.tch (Tch.setCells (S := fun k => k = T) (g := T) rfl _ _ _ (Tch.refl _ _)) (fun e => hne2 e.symm)
  have T4 : Tch (fun k => k = T) w (World.setCells w3 T 8 (opL k a n id)) := Tch.setCells (S := fun k => k = T) (g := T) rfl _ _ _ T3
  have t4 : Tch (fun k => k = T) w3 (World.setCells w3 T 8 (opL k a n id)) := Tch.setCells (S := fun k => k = T) (g := T) rfl _ _ _ (Tch.refl _ _)
  obtain ⟨w4, hw4⟩ : ∃ x, World.setCells w3 T 8 (opL k a n id) = x := ⟨_, rfl⟩
  rw [hw4] at K4 KR4 T4 t4
  rw [op_chain] at hw4
  simp only [Nat.reduceAdd] at hw4
  obtain ⟨⟨d8, d9, d10, d11, d12, d13, d14, d15, d16, d17⟩, d18, d19, d0, df⟩ := TaskAt.cells K3
  obtain ⟨⟨e8, _⟩, e18, e19, _, ef⟩ := TaskAt.cells K4
  have K6 : TaskAt ((w4.setCell ⟨T, 18, none⟩ (.bool true)).setCell ⟨T, 19, none⟩ (.bool z)) T c { (s' : Ts) with ok := k, oa := a, on := n, oid := id, begun := true, ended := z } := (Blk.set_ K4 18 (.bool true)).set_ 19 (.bool z)
  have KR6 : Blk ((w4.setCell ⟨T, 18, none⟩ (.bool true)).setCell ⟨T, 19, none⟩ (.bool z)) (w.heap.size + 1) 44 (opA 0 0 0 0) := (KR4.far (p := ⟨T, 18, none⟩) (fun e => hne2 e.symm) _).far (p := ⟨T, 19, none⟩) (fun e => hne2 e.symm) _
  have t6 : Tch (fun k => k = T) w4 ((w4.setCell ⟨T, 18, none⟩ (.bool true)).setCell ⟨T, 19, none⟩ (.bool z)) := Tch.setCell (S := fun k => k = T) (Tch.setCell (S := fun k => k = T) (Tch.refl _ w4) (g := T) rfl 18 _) (g := T) rfl 19 _
  obtain ⟨w6, hw6⟩ : ∃ x, (w4.setCell ⟨T, 18, none⟩ (.bool true)).setCell ⟨T, 19, none⟩ (.bool z) = x := ⟨_, rfl⟩
  rw [hw6] at K6 KR6 t6
  have T6 := T4.trans t6 fun _ q => .inl q
  have u6 := t4.trans t6 fun _ q => .inl q
  have tf : Tch (fun k => k = w.heap.size + 1) w6 (World.setCells w6 (w.heap.size + 1) 0 (opL k a n id)) := Tch.setCells (S := fun k => k = w.heap.size + 1) (g := w.heap.size + 1) rfl _ _ _ (Tch.refl _ _)
  have K7 := TaskAt.tch K6 tf hne2
  have KR7 := Blk.put KR6 (opL k a n id) rfl
  have T7 : Tch (fun k => k = T) w (World.setCells w6 (w.heap.size + 1) 0 (opL k a n id)) := T6.trans tf fun _ q => .inr (by omega)
  have u7 : Tch (fun k => k = T ∨ k = w.heap.size + 1) w3 (World.setCells w6 (w.heap.size + 1) 0 (opL k a n id)) := Tch.trans (S := fun k => k = T ∨ k = w.heap.size + 1) (u6.mono fun _ _ q => .inl q) tf fun _ q => .inl (.inr q)
  obtain ⟨w7, hw7⟩ : ∃ x, World.setCells w6 (w.heap.size + 1) 0 (opL k a n id) = x := ⟨_, rfl⟩
  rw [hw7] at K7 KR7 T7 u7
  rw [op_chain] at hw7
  simp only [Nat.zero_add] at hw7
  obtain ⟨⟨p8, p9, p10, p11, p12, p13, p14, p15, p16, p17⟩, p18, p19, p0, pf⟩ := TaskAt.cells K6
  obtain ⟨⟨r0, r1, r2, r3, r4, r5, r6, r7, r8, r9⟩, rf⟩ := op_cells KR6
  obtain ⟨⟨m0, m1, m2, m3, m4, m5, m6, m7, m8, m9⟩, _⟩ := op_cells (w := w7) (r := w.heap.size + 1) (k := k) (a := a) (n := n) (id := id) KR7
  obtain ⟨_, _, q19, _⟩ := TaskAt.cells K7
  have HK7 : Hid (TaskAt w7.drew T c _) := K7
  have HT7 := Lib.hid (T7.drewN 1)
  have Hu7 := Lib.hid (u7.drewN 1)
  clear K4 KR4 T4 K6 KR6 t6 T6 tf K7 KR7 T7 K3 KR3 T3 t4 u6 u7
  go_wp2_with fail
  clear d8 d9 d10 d11 d12 d13 d14 d15 d16 d17 d18 d19 d0 df e8 e18 e19 ef hw4 hw6
  go_region_law (fail)
  all_goals
    go_wp2_with fail
    refine bodyPost_ret (v := .tuple #[.agg (opA k a n id), .bool (!z)]) ?_ rfl ⟨rfl, ⟨_, HK7.out, HP w2 w3 _ _ hs2 p3.out Hu7.out⟩, HT7.out⟩
    simp [results, Try.results15, go_sem, opA, m0, m1, m2, m3, m4, m5, m6, m7, m8, m9]
set_option maxRecDepth 100000 in
set_option maxHeartbeats 4000000 in
theorem next_close (T : Nat) (c : Tk) (s : Ts) (ok : Bool) (gn gm : Int) (gL : Value) (gid : Int) (gV : Value) (gt : Int) (w : World) (h : TaskAt w T c s) (hb : s.begun = false) (he : s.ended = false) (hck : c.k = 6) :
    Calls Try.prog 15 #[.pointer (some ⟨T, 0, none⟩), .agg (gotL ok gn gm gL gid gV gt)] w (RetN T c w 2 0 0 0 true (fun _ s' => s' = { s with ok := 2, oa := 0, on := 0, oid := 0, begun := true, ended := false })) := by
  have hT := h.lt
  have hne1 : T ≠ w.heap.size := by omega
  have hne2 : T ≠ w.heap.size + 1 := by omega
  have hs1 : (w.alloc (.cells (gotL ok gn gm gL gid gV gt) 42)).heap.size = w.heap.size + 1 := by simp only [World.alloc, Array.size_push]
  obtain ⟨w2, hw2⟩ : ∃ x, (w.alloc (.cells (gotL ok gn gm gL gid gV gt) 42)).alloc (.cells (opA 0 0 0 0) 44) = x := ⟨_, rfl⟩
  have K2 : TaskAt w2 T c s := by rw [← hw2]; exact Blk.alloc (Blk.alloc h _) _
  have KG : Blk w2 w.heap.size 42 (gotL ok gn gm gL gid gV gt) := by rw [← hw2]; exact (Blk.new w 42 (gotL ok gn gm gL gid gV gt)).alloc (.cells (opA 0 0 0 0) 44)
  have KR : Blk w2 (w.heap.size + 1) 44 (opA 0 0 0 0) := by
    have := op_new (w.alloc (.cells (gotL ok gn gm gL gid gV gt) 42)) 0 0 0 0
    rw [hs1] at this; rw [← hw2]; exact this
  have b2 : Below w.heap.size w w2 := by rw [← hw2]; exact ((Below.refl _ w).alloc (Nat.le_refl _) _).alloc (by rw [hs1]; omega) _
  have hs2 : w2.heap.size = w.heap.size + 2 := by rw [← hw2]; simp only [World.alloc, Array.size_push]
  have T2 : Tch (fun k => k = T) w w2 := Tch.of_below b2
  have c18 : w2.cell? ⟨T, 18, none⟩ = some (.bool s.begun) := K2.cell 18
  have c19 : w2.cell? ⟨T, 19, none⟩ = some (.bool s.ended) := K2.cell 19
  have c0 : w2.cell? ⟨T, 0, none⟩ = some (.int .i64 c.k) := K2.cell 0
  have g0 : w2.cell? ⟨w.heap.size, 0, none⟩ = some (.bool ok) := KG.cell 0
  have g1 : w2.cell? ⟨w.heap.size, 1, none⟩ = some (.int .i64 gn) := KG.cell 1
  have g2 : w2.cell? ⟨w.heap.size, 2, none⟩ = some (.int .i64 gm) := KG.cell 2
  have g3 : w2.cell? ⟨w.heap.size, 3, none⟩ = some gL := KG.cell 3
  have g4 : w2.cell? ⟨w.heap.size, 4, none⟩ = some (.int .u64 gid) := KG.cell 4
  have g5 : w2.cell? ⟨w.heap.size, 5, none⟩ = some gV := KG.cell 5
  have g6 : w2.cell? ⟨w.heap.size, 6, none⟩ = some (.int .u64 gt) := KG.cell 6
  rw [hb] at c18
  rw [he] at c19
  rw [hck] at c0
  have HK2 := Lib.hid K2
  have HKR := Lib.hid KR
  have HT2 := Lib.hid T2
  clear K2 KR T2 b2 hb he hs2
  clear h hs1 KG
  unfold gotL opA at hw2
  unfold gotL
  go_enter Try.func15, Try.ntmps15
  go_upto_region 1 with fail
  (try rw [hw2])
  clear hw2
  have K2 := HK2.out
  have KR2 := HKR.out
  have T2 := HT2.out
  clear HK2 HKR HT2
  have K4 := TaskAt.op K2 2 0 0 0
  have KR4 : Blk (World.setCells w2 T 8 (opL 2 0 0 0)) (w.heap.size + 1) 44 (opA 0 0 0 0) := KR2.tch (Tch.setCells (S := fun k => k = T) (g := T) rfl _ _ _ (Tch.refl _ _)) (fun e => hne2 e.symm)
  have T4 : Tch (fun k => k = T) w (World.setCells w2 T 8 (opL 2 0 0 0)) := Tch.setCells (S := fun k => k = T) (g := T) rfl _ _ _ T2
  have t4 : Tch (fun k => k = T) w2 (World.setCells w2 T 8 (opL 2 0 0 0)) := Tch.setCells (S := fun k => k = T) (g := T) rfl _ _ _ (Tch.refl _ _)
  obtain ⟨w4, hw4⟩ : ∃ x, World.setCells w2 T 8 (opL 2 0 0 0) = x := ⟨_, rfl⟩
  rw [hw4] at K4 KR4 T4 t4
  rw [op_chain] at hw4
  simp only [Nat.reduceAdd] at hw4
  obtain ⟨⟨d8, d9, d10, d11, d12, d13, d14, d15, d16, d17⟩, _, _, _, df⟩ := TaskAt.cells K2
  obtain ⟨⟨e8, _⟩, e18, e19, _, ef⟩ := TaskAt.cells K4
  have K6 : TaskAt ((w4.setCell ⟨T, 18, none⟩ (.bool true)).setCell ⟨T, 19, none⟩ (.bool false)) T c { (s : Ts) with ok := 2, oa := 0, on := 0, oid := 0, begun := true, ended := false } := (Blk.set_ K4 18 (.bool true)).set_ 19 (.bool false)
  have KR6 : Blk ((w4.setCell ⟨T, 18, none⟩ (.bool true)).setCell ⟨T, 19, none⟩ (.bool false)) (w.heap.size + 1) 44 (opA 0 0 0 0) := (KR4.far (p := ⟨T, 18, none⟩) (fun e => hne2 e.symm) _).far (p := ⟨T, 19, none⟩) (fun e => hne2 e.symm) _
  have t6 : Tch (fun k => k = T) w4 ((w4.setCell ⟨T, 18, none⟩ (.bool true)).setCell ⟨T, 19, none⟩ (.bool false)) := Tch.setCell (S := fun k => k = T) (Tch.setCell (S := fun k => k = T) (Tch.refl _ w4) (g := T) rfl 18 _) (g := T) rfl 19 _
  obtain ⟨w6, hw6⟩ : ∃ x, (w4.setCell ⟨T, 18, none⟩ (.bool true)).setCell ⟨T, 19, none⟩ (.bool false) = x := ⟨_, rfl⟩
  rw [hw6] at K6 KR6 t6
  have T6 := T4.trans t6 fun _ q => .inl q
  have u6 := t4.trans t6 fun _ q => .inl q
  have tf : Tch (fun k => k = w.heap.size + 1) w6 (World.setCells w6 (w.heap.size + 1) 0 (opL 2 0 0 0)) := Tch.setCells (S := fun k => k = w.heap.size + 1) (g := w.heap.size + 1) rfl _ _ _ (Tch.refl _ _)
  have K7 := TaskAt.tch K6 tf hne2
  have KR7 := Blk.put KR6 (opL 2 0 0 0) rfl
  have T7 : Tch (fun k => k = T) w (World.setCells w6 (w.heap.size + 1) 0 (opL 2 0 0 0)) := T6.trans tf fun _ q => .inr (by omega)
  have u7 : Tch (fun k => k = T ∨ k = w.heap.size + 1) w2 (World.setCells w6 (w.heap.size + 1) 0 (opL 2 0 0 0)) := Tch.trans (S := fun k => k = T ∨ k = w.heap.size + 1) (u6.mono fun _ _ q => .inl q) tf fun _ q => .inl (.inr q)
  obtain ⟨w7, hw7⟩ : ∃ x, World.setCells w6 (w.heap.size + 1) 0 (opL 2 0 0 0) = x := ⟨_, rfl⟩
  rw [hw7] at K7 KR7 T7 u7
  rw [op_chain] at hw7
  simp only [Nat.zero_add] at hw7
  obtain ⟨⟨p8, p9, p10, p11, p12, p13, p14, p15, p16, p17⟩, p18, p19, p0, pf⟩ := TaskAt.cells K6
  obtain ⟨⟨r0, r1, r2, r3, r4, r5, r6, r7, r8, r9⟩, rf⟩ := op_cells KR6
  obtain ⟨⟨m0, m1, m2, m3, m4, m5, m6, m7, m8, m9⟩, _⟩ := op_cells (w := w7) (r := w.heap.size + 1) (k := 2) (a := 0) (n := 0) (id := 0) KR7
  obtain ⟨_, _, q19, _⟩ := TaskAt.cells K7
  have HK7 : Hid (TaskAt w7.drew T c _) := K7
  have HT7 := Lib.hid (T7.drewN 1)
  have Hu7 := Lib.hid (u7.drewN 1)
  clear K4 KR4 T4 K6 KR6 t6 T6 tf K7 KR7 T7 K2 KR2 T2 t4 u6 u7
  go_wp2_with fail
  clear d8 d9 d10 d11 d12 d13 d14 d15 d16 d17 df e8 e18 e19 ef hw4 hw6
  go_region_law (fail)
  all_goals
    go_wp2_with fail
    refine bodyPost_ret (v := .tuple #[.agg (opA 2 0 0 0), .bool (!false)]) ?_ rfl ⟨rfl, ⟨_, HK7.out, rfl⟩, HT7.out⟩
    simp [results, Try.results15, go_sem, opA, m0, m1, m2, m3, m4, m5, m6, m7, m8, m9]
set_option maxRecDepth 100000 in
set_option maxHeartbeats 4000000 in
theorem next_open (T : Nat) (c : Tk) (s : Ts) (ok : Bool) (gn gm : Int) (gL : Value) (gid : Int) (gV : Value) (gt : Int) (w : World) (h : TaskAt w T c s) (hb : s.begun = false) (he : s.ended = false) (hck : (c.k == 6) = false) :
    Calls Try.prog 15 #[.pointer (some ⟨T, 0, none⟩), .agg (gotL ok gn gm gL gid gV gt)] w (RetN T c w 1 0 0 0 true (fun _ s' => s' = { s with ok := 1, oa := 0, on := 0, oid := 0, begun := true, ended := false })) := by
  have hT := h.lt
  have hne1 : T ≠ w.heap.size := by omega
  have hne2 : T ≠ w.heap.size + 1 := by omega
  have hs1 : (w.alloc (.cells (gotL ok gn gm gL gid gV gt) 42)).heap.size = w.heap.size + 1 := by simp only [World.alloc, Array.size_push]
  obtain ⟨w2, hw2⟩ : ∃ x, (w.alloc (.cells (gotL ok gn gm gL gid gV gt) 42)).alloc (.cells (opA 0 0 0 0) 44) = x := ⟨_, rfl⟩
  have K2 : TaskAt w2 T c s := by rw [← hw2]; exact Blk.alloc (Blk.alloc h _) _
  have KG : Blk w2 w.heap.size 42 (gotL ok gn gm gL gid gV gt) := by rw [← hw2]; exact (Blk.new w 42 (gotL ok gn gm gL gid gV gt)).alloc (.cells (opA 0 0 0 0) 44)
  have KR : Blk w2 (w.heap.size + 1) 44 (opA 0 0 0 0) := by
    have := op_new (w.alloc (.cells (gotL ok gn gm gL gid gV gt) 42)) 0 0 0 0
    rw [hs1] at this; rw [← hw2]; exact this
  have b2 : Below w.heap.size w w2 := by rw [← hw2]; exact ((Below.refl _ w).alloc (Nat.le_refl _) _).alloc (by rw [hs1]; omega) _
  have hs2 : w2.heap.size = w.heap.size + 2 := by rw [← hw2]; simp only [World.alloc, Array.size_push]
  have T2 : Tch (fun k => k = T) w w2 := Tch.of_below b2
  have c18 : w2.cell? ⟨T, 18, none⟩ = some (.bool s.begun) := K2.cell 18
  have c19 : w2.cell? ⟨T, 19, none⟩ = some (.bool s.ended) := K2.cell 19
  have c0 : w2.cell? ⟨T, 0, none⟩ = some (.int .i64 c.k) := K2.cell 0
  have g0 : w2.cell? ⟨w.heap.size, 0, none⟩ = some (.bool ok) := KG.cell 0
  have g1 : w2.cell? ⟨w.heap.size, 1, none⟩ = some (.int .i64 gn) := KG.cell 1
  have g2 : w2.cell? ⟨w.heap.size, 2, none⟩ = some (.int .i64 gm) := KG.cell 2
  have g3 : w2.cell? ⟨w.heap.size, 3, none⟩ = some gL := KG.cell 3
  have g4 : w2.cell? ⟨w.heap.size, 4, none⟩ = some (.int .u64 gid) := KG.cell 4
  have g5 : w2.cell? ⟨w.heap.size, 5, none⟩ = some gV := KG.cell 5
  have g6 : w2.cell? ⟨w.heap.size, 6, none⟩ = some (.int .u64 gt) := KG.cell 6
  rw [hb] at c18
  rw [he] at c19
  have HK2 := Lib.hid K2
  have HKR := Lib.hid KR
  have HT2 := Lib.hid T2
  clear K2 KR T2 b2 hb he hs2
  clear h hs1 KG
  unfold gotL opA at hw2
  unfold gotL
  go_enter Try.func15, Try.ntmps15
  go_upto_region 1 with fail
  (try rw [hw2])
  clear hw2
  have K2 := HK2.out
  have KR2 := HKR.out
  have T2 := HT2.out
  clear HK2 HKR HT2
  have K4 := TaskAt.op K2 1 0 0 0
  have KR4 : Blk (World.setCells w2 T 8 (opL 1 0 0 0)) (w.heap.size + 1) 44 (opA 0 0 0 0) := KR2.tch (Tch.setCells (S := fun k => k = T) (g := T) rfl _ _ _ (Tch.refl _ _)) (fun e => hne2 e.symm)
  have T4 : Tch (fun k => k = T) w (World.setCells w2 T 8 (opL 1 0 0 0)) := Tch.setCells (S := fun k => k = T) (g := T) rfl _ _ _ T2
  have t4 : Tch (fun k => k = T) w2 (World.setCells w2 T 8 (opL 1 0 0 0)) := Tch.setCells (S := fun k => k = T) (g := T) rfl _ _ _ (Tch.refl _ _)
  obtain ⟨w4, hw4⟩ : ∃ x, World.setCells w2 T 8 (opL 1 0 0 0) = x := ⟨_, rfl⟩
  rw [hw4] at K4 KR4 T4 t4
  rw [op_chain] at hw4
  simp only [Nat.reduceAdd] at hw4
  obtain ⟨⟨d8, d9, d10, d11, d12, d13, d14, d15, d16, d17⟩, _, _, _, df⟩ := TaskAt.cells K2
  obtain ⟨⟨e8, _⟩, e18, e19, _, ef⟩ := TaskAt.cells K4
  have K6 : TaskAt ((w4.setCell ⟨T, 18, none⟩ (.bool true)).setCell ⟨T, 19, none⟩ (.bool false)) T c { (s : Ts) with ok := 1, oa := 0, on := 0, oid := 0, begun := true, ended := false } := (Blk.set_ K4 18 (.bool true)).set_ 19 (.bool false)
  have KR6 : Blk ((w4.setCell ⟨T, 18, none⟩ (.bool true)).setCell ⟨T, 19, none⟩ (.bool false)) (w.heap.size + 1) 44 (opA 0 0 0 0) := (KR4.far (p := ⟨T, 18, none⟩) (fun e => hne2 e.symm) _).far (p := ⟨T, 19, none⟩) (fun e => hne2 e.symm) _
  have t6 : Tch (fun k => k = T) w4 ((w4.setCell ⟨T, 18, none⟩ (.bool true)).setCell ⟨T, 19, none⟩ (.bool false)) := Tch.setCell (S := fun k => k = T) (Tch.setCell (S := fun k => k = T) (Tch.refl _ w4) (g := T) rfl 18 _) (g := T) rfl 19 _
  obtain ⟨w6, hw6⟩ : ∃ x, (w4.setCell ⟨T, 18, none⟩ (.bool true)).setCell ⟨T, 19, none⟩ (.bool false) = x := ⟨_, rfl⟩
  rw [hw6] at K6 KR6 t6
  have T6 := T4.trans t6 fun _ q => .inl q
  have u6 := t4.trans t6 fun _ q => .inl q
  have tf : Tch (fun k => k = w.heap.size + 1) w6 (World.setCells w6 (w.heap.size + 1) 0 (opL 1 0 0 0)) := Tch.setCells (S := fun k => k = w.heap.size + 1) (g := w.heap.size + 1) rfl _ _ _ (Tch.refl _ _)
  have K7 := TaskAt.tch K6 tf hne2
  have KR7 := Blk.put KR6 (opL 1 0 0 0) rfl
  have T7 : Tch (fun k => k = T) w (World.setCells w6 (w.heap.size + 1) 0 (opL 1 0 0 0)) := T6.trans tf fun _ q => .inr (by omega)
  have u7 : Tch (fun k => k = T ∨ k = w.heap.size + 1) w2 (World.setCells w6 (w.heap.size + 1) 0 (opL 1 0 0 0)) := Tch.trans (S := fun k => k = T ∨ k = w.heap.size + 1) (u6.mono fun _ _ q => .inl q) tf fun _ q => .inl (.inr q)
  obtain ⟨w7, hw7⟩ : ∃ x, World.setCells w6 (w.heap.size + 1) 0 (opL 1 0 0 0) = x := ⟨_, rfl⟩
  rw [hw7] at K7 KR7 T7 u7
  rw [op_chain] at hw7
  simp only [Nat.zero_add] at hw7
  obtain ⟨⟨p8, p9, p10, p11, p12, p13, p14, p15, p16, p17⟩, p18, p19, p0, pf⟩ := TaskAt.cells K6
  obtain ⟨⟨r0, r1, r2, r3, r4, r5, r6, r7, r8, r9⟩, rf⟩ := op_cells KR6
  obtain ⟨⟨m0, m1, m2, m3, m4, m5, m6, m7, m8, m9⟩, _⟩ := op_cells (w := w7) (r := w.heap.size + 1) (k := 1) (a := 0) (n := 0) (id := 0) KR7
  obtain ⟨_, _, q19, _⟩ := TaskAt.cells K7
  have HK7 : Hid (TaskAt w7.drew T c _) := K7
  have HT7 := Lib.hid (T7.drewN 1)
  have Hu7 := Lib.hid (u7.drewN 1)
  clear K4 KR4 T4 K6 KR6 t6 T6 tf K7 KR7 T7 K2 KR2 T2 t4 u6 u7
  go_wp2_with fail
  clear d8 d9 d10 d11 d12 d13 d14 d15 d16 d17 df e8 e18 e19 ef hw4 hw6
  go_region_law (fail)
  all_goals
    go_wp2_with fail
    refine bodyPost_ret (v := .tuple #[.agg (opA 1 0 0 0), .bool (!false)]) ?_ rfl ⟨rfl, ⟨_, HK7.out, rfl⟩, HT7.out⟩
    simp [results, Try.results15, go_sem, opA, m0, m1, m2, m3, m4, m5, m6, m7, m8, m9]
set_option maxRecDepth 100000 in
set_option maxHeartbeats 4000000 in
theorem next_end (T : Nat) (c : Tk) (s : Ts) (ok : Bool) (gn gm : Int) (gL : Value) (gid : Int) (gV : Value) (gt : Int) (w : World) (h : TaskAt w T c s) (he : s.ended = true) :
    Calls Try.prog 15 #[.pointer (some ⟨T, 0, none⟩), .agg (gotL ok gn gm gL gid gV gt)] w (RetN T c w 0 0 0 0 false (fun _ s' => s' = s)) := by
  have hT := h.lt
  have hne1 : T ≠ w.heap.size := by omega
  have hne2 : T ≠ w.heap.size + 1 := by omega
  have hs1 : (w.alloc (.cells (gotL ok gn gm gL gid gV gt) 42)).heap.size = w.heap.size + 1 := by simp only [World.alloc, Array.size_push]
  obtain ⟨w2, hw2⟩ : ∃ x, (w.alloc (.cells (gotL ok gn gm gL gid gV gt) 42)).alloc (.cells (opA 0 0 0 0) 44) = x := ⟨_, rfl⟩
  have K2 : TaskAt w2 T c s := by rw [← hw2]; exact Blk.alloc (Blk.alloc h _) _
  have KG : Blk w2 w.heap.size 42 (gotL ok gn gm gL gid gV gt) := by rw [← hw2]; exact (Blk.new w 42 (gotL ok gn gm gL gid gV gt)).alloc (.cells (opA 0 0 0 0) 44)
  have KR : Blk w2 (w.heap.size + 1) 44 (opA 0 0 0 0) := by
    have := op_new (w.alloc (.cells (gotL ok gn gm gL gid gV gt) 42)) 0 0 0 0
    rw [hs1] at this; rw [← hw2]; exact this
  have b2 : Below w.heap.size w w2 := by rw [← hw2]; exact ((Below.refl _ w).alloc (Nat.le_refl _) _).alloc (by rw [hs1]; omega) _
  have hs2 : w2.heap.size = w.heap.size + 2 := by rw [← hw2]; simp only [World.alloc, Array.size_push]
  have T2 : Tch (fun k => k = T) w w2 := Tch.of_below b2
  have c18 : w2.cell? ⟨T, 18, none⟩ = some (.bool s.begun) := K2.cell 18
  have c19 : w2.cell? ⟨T, 19, none⟩ = some (.bool s.ended) := K2.cell 19
  have c0 : w2.cell? ⟨T, 0, none⟩ = some (.int .i64 c.k) := K2.cell 0
  have g0 : w2.cell? ⟨w.heap.size, 0, none⟩ = some (.bool ok) := KG.cell 0
  have g1 : w2.cell? ⟨w.heap.size, 1, none⟩ = some (.int .i64 gn) := KG.cell 1
  have g2 : w2.cell? ⟨w.heap.size, 2, none⟩ = some (.int .i64 gm) := KG.cell 2
  have g3 : w2.cell? ⟨w.heap.size, 3, none⟩ = some gL := KG.cell 3
  have g4 : w2.cell? ⟨w.heap.size, 4, none⟩ = some (.int .u64 gid) := KG.cell 4
  have g5 : w2.cell? ⟨w.heap.size, 5, none⟩ = some gV := KG.cell 5
  have g6 : w2.cell? ⟨w.heap.size, 6, none⟩ = some (.int .u64 gt) := KG.cell 6
  rw [he] at c19
  have HK2 := Lib.hid K2
  have HKR := Lib.hid KR
  have HT2 := Lib.hid T2
  clear K2 KR T2 b2 he hs2
  clear h hs1 KG
  unfold gotL opA at hw2
  have tf : Tch (fun k => k = w.heap.size + 1) w2 (World.setCells w2 (w.heap.size + 1) 0 (opL 0 0 0 0)) := Tch.setCells (S := fun k => k = w.heap.size + 1) (g := w.heap.size + 1) rfl _ _ _ (Tch.refl _ _)
  have K7 := TaskAt.tch HK2.out tf hne2
  have KR7 := Blk.put HKR.out (opL 0 0 0 0) rfl
  have T7 : Tch (fun k => k = T) w (World.setCells w2 (w.heap.size + 1) 0 (opL 0 0 0 0)) := HT2.out.trans tf fun _ q => .inr (by omega)
  obtain ⟨w7, hw7⟩ : ∃ x, World.setCells w2 (w.heap.size + 1) 0 (opL 0 0 0 0) = x := ⟨_, rfl⟩
  rw [hw7] at K7 KR7 T7
  rw [op_chain] at hw7
  simp only [Nat.zero_add] at hw7
  obtain ⟨⟨r0, r1, r2, r3, r4, r5, r6, r7, r8, r9⟩, rf⟩ := op_cells HKR.out
  obtain ⟨⟨m0, m1, m2, m3, m4, m5, m6, m7, m8, m9⟩, _⟩ := op_cells (w := w7) (r := w.heap.size + 1) (k := 0) (a := 0) (n := 0) (id := 0) KR7
  have HK7 := Lib.hid K7
  have HT7 := Lib.hid T7
  clear K7 KR7 T7 tf HK2 HKR HT2
  unfold gotL
  go_enter Try.func15, Try.ntmps15
  go_upto_region 1 with fail
  (try rw [hw2])
  clear hw2
  go_wp2_with fail
  refine bodyPost_ret (v := .tuple #[.agg (opA 0 0 0 0), .bool false]) ?_ rfl ⟨rfl, ⟨_, HK7.out, rfl⟩, HT7.out⟩
  simp [results, Try.results15, go_sem, opA, m0, m1, m2, m3, m4, m5, m6, m7, m8, m9]
theorem gt_marks (T : Nat) (c : Tk) (s : Ts) (w : World) (h : TaskAt w T c s) : Calls Try.prog 17 #[.pointer (some ⟨T, 0, none⟩)] w fun e w' => e = .returned (.int .i64 s.marks) ∧ w = w' := by
  have c20 : w.cell? ⟨T, 20, none⟩ = some (.int .i64 s.marks) := Blk.cell h 20
  clear h
  go_enter Try.func17, Try.ntmps17
  go_wp2_with fail
  go_ret
  exact ⟨rfl, rfl⟩
/-- What a task tells: its cells. -/
def toldA (c : Tk) (s : Ts) : Array Value := #[.int .i64 0, .int .i64 c.k, .int .u64 c.id, c.V, .int .u64 c.tags, .int .i64 c.kk, .int .i64 c.ef, .int .u64 c.dr,
  .int .i64 s.err, .int .u64 s.tid, s.TV, .int .u64 s.ttags, .slice none 0 0, .int .i64 s.len, .int .i64 0, .slice none 0 0, .int .i64 0]
end Go.Proofs.Ytkhnnjeinpojkaa
