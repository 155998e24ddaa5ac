/- Getter: what is asked behind an answer. -/
import Derived.Test.YtkhnnjeinpojkaaGtC
import Derived.Deep.RegionLaw
namespace Go.Proofs.Ytkhnnjeinpojkaa
open Go.RowKit
/-- A task's call, its vectors' components. -/
structure Tk where
  k : Int
  id : Int
  V : Value
  tags : Int
  kk : Int
  ef : Int
  dr : Int
  dim : Int
/-- Where a task is. -/
structure Ts where
  ok : Int
  oa : Int
  on : Int
  oid : Int
  begun : Bool
  ended : Bool
  marks : Nat
  err : Int
  tid : Int
  TV : Value
  ttags : Int
  len : Int
def nilV : Value := .slice none 0 0
def opA (k a n id : Int) : Array Value := #[.int .i64 k, .int .i64 a, .int .i64 0, .int .i64 n, .int .i64 0, .int .u64 id, .slice none 0 0, .int .u64 0, .slice none 0 0, .int .u64 0]
def taskA (c : Tk) (s : Ts) : Array Value := #[.int .i64 c.k, .int .u64 c.id, c.V, .int .u64 c.tags, .int .i64 c.kk, .int .i64 c.ef, .int .u64 c.dr, .int .i64 c.dim,
  .int .i64 s.ok, .int .i64 s.oa, .int .i64 0, .int .i64 s.on, .int .i64 0, .int .u64 s.oid, .slice none 0 0, .int .u64 0, .slice none 0 0, .int .u64 0,
  .bool s.begun, .bool s.ended, .int .i64 s.marks,
  .int .i64 0, .int .i64 c.k, .int .u64 c.id, c.V, .int .u64 c.tags, .int .i64 c.kk, .int .i64 c.ef, .int .u64 c.dr,
  .int .i64 s.err, .int .u64 s.tid, s.TV, .int .u64 s.ttags, .slice none 0 0, .int .i64 s.len, .int .i64 0, .slice none 0 0, .int .i64 0]
/-- A task at hand. -/
def TaskAt (w : World) (T : Nat) (c : Tk) (s : Ts) : Prop := Blk w T 95 (taskA c s)
theorem TaskAt.lt {w : World} {T : Nat} {c : Tk} {s : Ts} (h : TaskAt w T c s) : T < w.heap.size := Blk.lt h
theorem TaskAt.tch {S : Nat → Prop} {w w' : World} {T : Nat} {c : Tk} {s : Ts} (h : TaskAt w T c s) (hT : Tch S w w') (hn : ¬ S T) : TaskAt w' T c s := Blk.tch h hT hn
theorem gt_mark (T : Nat) (c : Tk) (s : Ts) (why : Int) (w : World) (h : TaskAt w T c s) (hm : s.marks ≤ 4611686018427387904) :
    Calls Try.prog 93 #[.pointer (some ⟨T, 0, none⟩), .int .i64 why] w fun e w' => e = .returned (.tuple #[]) ∧ TaskAt w' T c { s with marks := s.marks + 1, err := why } ∧ Tch (fun k => k = T) w w' := by
  have c20 : w.cell? ⟨T, 20, none⟩ = some (.int .i64 s.marks) := Blk.cell h 20
  have c29 : w.cell? ⟨T, 29, none⟩ = some (.int .i64 s.err) := Blk.cell h 29
  have f20 := Blk.frozen h 20
  have f29 := Blk.frozen h 29
  have hw : IntKind.i64.wrap ((s.marks : Int) + 1) = (s.marks : Int) + 1 := by simp only [IntKind.wrap, IntKind.bits, IntKind.signed]; simp; omega
  have HK : Hid (TaskAt ((w.setCell ⟨T, 20, none⟩ (.int .i64 ((s.marks : Int) + 1))).setCell ⟨T, 29, none⟩ (.int .i64 why)) T c { s with marks := s.marks + 1, err := why }) := by
    have := (Blk.set_ h 20 (.int .i64 ((s.marks : Int) + 1))).set_ 29 (.int .i64 why)
    exact this
  have HT : Hid (Tch (fun k => k = T) w ((w.setCell ⟨T, 20, none⟩ (.int .i64 ((s.marks : Int) + 1))).setCell ⟨T, 29, none⟩ (.int .i64 why))) := Tch.setCell (S := fun k => k = T) (Tch.setCell (S := fun k => k = T) (Tch.refl _ w) (g := T) rfl 20 _) (g := T) rfl 29 _
  obtain ⟨m, hmm⟩ : ∃ m, (s.marks : Int) = m := ⟨_, rfl⟩
  rw [hmm] at c20 hw HK HT
  clear h hm hmm
  go_enter Try.func93, Try.ntmps93
  go_wp2_with fail
  (try simp only [Exit.inBlock, Exit.then])
  exact bodyPost_end (v := .tuple #[]) (by simp [results, Try.results93, go_sem]) rfl ⟨rfl, HK.out, HT.out⟩
/-- What follow says. -/
def RetF (T : Nat) (c : Tk) (w : World) (k a n id : Int) (P : World → Ts → Prop) (e : Ending) (w' : World) : Prop :=
  e = .returned (.agg (opA k a n id)) ∧ (∃ s, TaskAt w' T c s ∧ P w' s) ∧ Tch (fun k => k = T) w w'
theorem op_new (w : World) (k a n id : Int) : Blk (w.alloc (.cells (opA k a n id) 44)) w.heap.size 44 (opA k a n id) := Blk.new w _ _
def opL (k a n id : Int) : List Value := [.int .i64 k, .int .i64 a, .int .i64 0, .int .i64 n, .int .i64 0, .int .u64 id, .slice none 0 0, .int .u64 0, .slice none 0 0, .int .u64 0]
/-- The ten cells of an operation. -/
theorem op_cells {w : World} {r : Nat} {k a n id : Int} (h : Blk w r 44 (opA k a n id)) :
    (w.cell? ⟨r, 0, none⟩ = some (.int .i64 k) ∧ w.cell? ⟨r, 1, none⟩ = some (.int .i64 a) ∧ w.cell? ⟨r, 2, none⟩ = some (.int .i64 0) ∧ w.cell? ⟨r, 3, none⟩ = some (.int .i64 n) ∧ w.cell? ⟨r, 4, none⟩ = some (.int .i64 0) ∧
    w.cell? ⟨r, 5, none⟩ = some (.int .u64 id) ∧ w.cell? ⟨r, 6, none⟩ = some (.slice none 0 0) ∧ w.cell? ⟨r, 7, none⟩ = some (.int .u64 0) ∧ w.cell? ⟨r, 8, none⟩ = some (.slice none 0 0) ∧ w.cell? ⟨r, 9, none⟩ = some (.int .u64 0)) ∧ ∀ i, w.frozen? ⟨r, i, none⟩ = false :=
  ⟨⟨h.cell 0, h.cell 1, h.cell 2, h.cell 3, h.cell 4, h.cell 5, h.cell 6, h.cell 7, h.cell 8, h.cell 9⟩, h.frozen⟩
set_option maxRecDepth 100000 in
set_option maxHeartbeats 4000000 in
theorem follow_3 (T : Nat) (c : Tk) (s : Ts) (ok : Bool) (gn gm : Int) (gL : Value) (gid : Int) (gV : Value) (gt : Int) (w : World) (h : TaskAt w T c s) (hk : s.ok = 3) :
    Calls Try.prog 66 #[.pointer (some ⟨T, 0, none⟩), .agg (gotL ok gn gm gL gid gV gt)] w (RetF T c w 6 0 (recE gn) 0 fun _ s' => s' = s) := by
  have hT := h.lt
  have t2 : Tch (fun k => k = T) w ((w.alloc (.cells (gotL ok gn gm gL gid gV gt) 42)).alloc (.cells (opA 6 0 (recE gn) 0) 44)) := ((Tch.refl _ w).alloc _).alloc _
  have HK : Hid (TaskAt ((w.alloc (.cells (gotL ok gn gm gL gid gV gt) 42)).alloc (.cells (opA 6 0 (recE gn) 0) 44)) T c s) := (Blk.alloc (Blk.alloc h _) _)
  have c8 : ((w.alloc (.cells (gotL ok gn gm gL gid gV gt) 42)).alloc (.cells (opA 0 0 0 0) 44)).cell? ⟨T, 8, none⟩ = some (.int .i64 3) := by
    rw [← hk]; exact Blk.cell (Blk.alloc (Blk.alloc h _) _) 8
  have HR := Lib.hid (fun w => gt_rec gn w)
  have HT2 := Lib.hid t2
  have KR := Lib.hid (op_new (w.alloc (.cells (gotL ok gn gm gL gid gV gt) 42)) 6 0 (recE gn) 0)
  have hs1 : (w.alloc (.cells (gotL ok gn gm gL gid gV gt) 42)).heap.size = w.heap.size + 1 := by simp only [World.alloc, Array.size_push]
  rw [hs1] at KR
  clear h t2 hs1
  unfold gotL opA at *
  go_enter Try.func66, Try.ntmps66
  go_wp2_with fail
  refine (HR.out _).mono ?_
  rintro e w2 ⟨rfl, rfl⟩
  go_wp2_with fail
  obtain ⟨⟨m0, m1, m2, m3, m4, m5, m6, m7, m8, m9⟩, _⟩ := op_cells KR.out
  refine bodyPost_ret (v := .agg (opA 6 0 (recE gn) 0)) ?_ rfl ⟨rfl, ⟨s, HK.out, rfl⟩, HT2.out⟩
  simp [results, Try.results66, go_sem, opA, m0, m1, m2, m3, m4, m5, m6, m7, m8, m9]
set_option maxRecDepth 100000 in
set_option maxHeartbeats 4000000 in
theorem follow_2 (T : Nat) (c : Tk) (s : Ts) (ok : Bool) (gn gm : Int) (gL : Value) (gid : Int) (gV : Value) (gt : Int) (w : World) (h : TaskAt w T c s) (hk : s.ok = 2) (hm : s.marks ≤ 4611686018427387904) :
    Calls Try.prog 66 #[.pointer (some ⟨T, 0, none⟩), .agg (gotL ok gn gm gL gid gV gt)] w (RetF T c w 0 0 0 0 (fun _ s' => s' = { s with marks := s.marks + 1, err := if ok then 0 else 5 })) := by
  have hT := h.lt
  have hne1 : T ≠ w.heap.size := by omega
  have hne2 : T ≠ w.heap.size + 1 := by omega
  have K2 : TaskAt ((w.alloc (.cells (gotL ok gn gm gL gid gV gt) 42)).alloc (.cells (opA 0 0 0 0) 44)) T c s := (Blk.alloc (Blk.alloc h _) _)
  have c8 : ((w.alloc (.cells (gotL ok gn gm gL gid gV gt) 42)).alloc (.cells (opA 0 0 0 0) 44)).cell? ⟨T, 8, none⟩ = some (.int .i64 2) := by
    rw [← hk]; exact Blk.cell K2 8
  have hs1 : (w.alloc (.cells (gotL ok gn gm gL gid gV gt) 42)).heap.size = w.heap.size + 1 := by simp only [World.alloc, Array.size_push]
  have KG := (Blk.new w 42 (gotL ok gn gm gL gid gV gt)).alloc (.cells (opA 0 0 0 0) 44)
  have KR := op_new (w.alloc (.cells (gotL ok gn gm gL gid gV gt) 42)) 0 0 0 0
  rw [hs1] at KR
  have t2 : Tch (fun k => k = T) w ((w.alloc (.cells (gotL ok gn gm gL gid gV gt) 42)).alloc (.cells (opA 0 0 0 0) 44)) := ((Tch.refl _ w).alloc _).alloc _
  have HKG := Lib.hid KG
  have HKR := Lib.hid KR
  have HT2 := Lib.hid t2
  have HK2 := Lib.hid K2
  clear K2 KG KR t2 hs1 hk
  unfold gotL opA at *
  go_enter Try.func66, Try.ntmps66
  go_wp2_with fail
  refine (gt_mark T c s 0 _ HK2.out hm).mono ?_
  rintro e w3 ⟨rfl, K3, t3⟩
  have KG3 : Blk w3 w.heap.size 42 (gotL ok gn gm gL gid gV gt) := HKG.out.tch t3 (fun e => hne1 e.symm)
  have KR3 : Blk w3 (w.heap.size + 1) 44 (opA 0 0 0 0) := HKR.out.tch t3 (fun e => hne2 e.symm)
  have T3 : Tch (fun k => k = T) w w3 := HT2.out.trans t3 fun _ q => .inl q
  clear HKG HKR HT2 HK2 t3 c8
  have g0 : w3.cell? ⟨w.heap.size, 0, none⟩ = some (.bool ok) := KG3.cell 0
  cases ok with
  | true =>
    clear KG3
    have KF := Blk.put KR3 (opL 0 0 0 0) rfl
    have tf : Tch (fun k => k = w.heap.size + 1) w3 (World.setCells w3 (w.heap.size + 1) 0 (opL 0 0 0 0)) := Tch.setCells (S := fun k => k = w.heap.size + 1) (g := w.heap.size + 1) rfl _ _ _ (Tch.refl _ _)
    have KTF := TaskAt.tch K3 tf hne2
    have TF : Tch (fun k => k = T) w (World.setCells w3 (w.heap.size + 1) 0 (opL 0 0 0 0)) := (T3.trans tf fun _ q => .inr (by omega))
    have hKF := Lib.hid KF
    have hKTF := Lib.hid KTF
    have hTF := Lib.hid TF
    obtain ⟨⟨r0, r1, r2, r3, r4, r5, r6, r7, r8, r9⟩, rf⟩ := op_cells KR3
    clear KF tf KTF TF
    go_wp2_with fail
    clear r0 r1 r2 r3 r4 r5 r6 r7 r8 r9 rf
    change bodyPost _ _ _ _ _ (World.setCells w3 (w.heap.size + 1) 0 (opL 0 0 0 0))
    obtain ⟨wF, hF⟩ : ∃ x, World.setCells w3 (w.heap.size + 1) 0 (opL 0 0 0 0) = x := ⟨_, rfl⟩
    rw [hF] at hKF hKTF hTF ⊢
    obtain ⟨⟨m0, m1, m2, m3, m4, m5, m6, m7, m8, m9⟩, _⟩ := op_cells (w := wF) (r := w.heap.size + 1) (k := 0) (a := 0) (n := 0) (id := 0) hKF.out
    refine bodyPost_ret (v := .agg (opA 0 0 0 0)) ?_ rfl ⟨rfl, ⟨_, hKTF.out, rfl⟩, hTF.out⟩
    simp [results, Try.results66, go_sem, opA, m0, m1, m2, m3, m4, m5, m6, m7, m8, m9]
  | false =>
    have c29 : w3.cell? ⟨T, 29, none⟩ = some (.int .i64 0) := Blk.cell K3 29
    have f29 := Blk.frozen K3 29
    have K4 : TaskAt (w3.setCell ⟨T, 29, none⟩ (.int .i64 5)) T c { s with marks := s.marks + 1, err := 5 } := Blk.set_ K3 29 (.int .i64 5)
    have KR4 : Blk (w3.setCell ⟨T, 29, none⟩ (.int .i64 5)) (w.heap.size + 1) 44 (opA 0 0 0 0) := KR3.far (p := ⟨T, 29, none⟩) (fun e => hne2 e.symm) _
    have T4 : Tch (fun k => k = T) w (w3.setCell ⟨T, 29, none⟩ (.int .i64 5)) := Tch.setCell (S := fun k => k = T) T3 (g := T) rfl 29 _
    clear KG3 KR3 K3 T3
    go_upto_region 26 with fail
    obtain ⟨w4, hw4⟩ : ∃ x, w3.setCell ⟨T, 29, none⟩ (.int .i64 5) = x := ⟨_, rfl⟩
    rw [hw4] at K4 KR4 T4 ⊢
    clear hw4
    have KF := Blk.put KR4 (opL 0 0 0 0) rfl
    have tf : Tch (fun k => k = w.heap.size + 1) w4 (World.setCells w4 (w.heap.size + 1) 0 (opL 0 0 0 0)) := Tch.setCells (S := fun k => k = w.heap.size + 1) (g := w.heap.size + 1) rfl _ _ _ (Tch.refl _ _)
    have KTF := TaskAt.tch K4 tf hne2
    have TF : Tch (fun k => k = T) w (World.setCells w4 (w.heap.size + 1) 0 (opL 0 0 0 0)) := (T4.trans tf fun _ q => .inr (by omega))
    have hKF := Lib.hid KF
    have hKTF := Lib.hid KTF
    have hTF := Lib.hid TF
    obtain ⟨⟨r0, r1, r2, r3, r4, r5, r6, r7, r8, r9⟩, rf⟩ := op_cells KR4
    clear KF tf KTF TF
    go_step
    go_step
    go_step
    first | go_values | go_skip | go_guarded | go_step | go_upon
    go_step
    go_step
    clear r0 r1 r2 r3 r4 r5 r6 r7 r8 r9 rf
    conv => arg 2; change World.setCells w4 (w.heap.size + 1) 0 (opL 0 0 0 0)
    obtain ⟨wF, hF⟩ : ∃ x, World.setCells w4 (w.heap.size + 1) 0 (opL 0 0 0 0) = x := ⟨_, rfl⟩
    rw [hF] at hKF hKTF hTF ⊢
    clear hF
    go_wp2_with fail
    obtain ⟨⟨m0, m1, m2, m3, m4, m5, m6, m7, m8, m9⟩, _⟩ := op_cells (w := wF) (r := w.heap.size + 1) (k := 0) (a := 0) (n := 0) (id := 0) hKF.out
    refine bodyPost_ret (v := .agg (opA 0 0 0 0)) ?_ rfl ⟨rfl, ⟨_, hKTF.out, rfl⟩, hTF.out⟩
    simp [results, Try.results66, go_sem, opA, m0, m1, m2, m3, m4, m5, m6, m7, m8, m9]
set_option maxRecDepth 100000 in
set_option maxHeartbeats 4000000 in
theorem follow_18 (T : Nat) (c : Tk) (s : Ts) (ok : Bool) (gn gm : Int) (gL : Value) (gid : Int) (gV : Value) (gt : Int) (w : World) (h : TaskAt w T c s) (hk : s.ok = 18) (hm : s.marks ≤ 4611686018427387904) :
    Calls Try.prog 66 #[.pointer (some ⟨T, 0, none⟩), .agg (gotL ok gn gm gL gid gV gt)] w (RetF T c w 0 0 0 0 (fun _ s' => s' = { s with marks := s.marks + 1, err := 0, len := gn })) := by
  have hT := h.lt
  have hne1 : T ≠ w.heap.size := by omega
  have hne2 : T ≠ w.heap.size + 1 := by omega
  have K2 : TaskAt ((w.alloc (.cells (gotL ok gn gm gL gid gV gt) 42)).alloc (.cells (opA 0 0 0 0) 44)) T c s := (Blk.alloc (Blk.alloc h _) _)
  have c8 : ((w.alloc (.cells (gotL ok gn gm gL gid gV gt) 42)).alloc (.cells (opA 0 0 0 0) 44)).cell? ⟨T, 8, none⟩ = some (.int .i64 18) := by
    rw [← hk]; exact Blk.cell K2 8
  have hs1 : (w.alloc (.cells (gotL ok gn gm gL gid gV gt) 42)).heap.size = w.heap.size + 1 := by simp only [World.alloc, Array.size_push]
  have KG := (Blk.new w 42 (gotL ok gn gm gL gid gV gt)).alloc (.cells (opA 0 0 0 0) 44)
  have KR := op_new (w.alloc (.cells (gotL ok gn gm gL gid gV gt) 42)) 0 0 0 0
  rw [hs1] at KR
  have t2 : Tch (fun k => k = T) w ((w.alloc (.cells (gotL ok gn gm gL gid gV gt) 42)).alloc (.cells (opA 0 0 0 0) 44)) := ((Tch.refl _ w).alloc _).alloc _
  have HKG := Lib.hid KG
  have HKR := Lib.hid KR
  have HT2 := Lib.hid t2
  have HK2 := Lib.hid K2
  clear K2 KG KR t2 hs1 hk
  unfold gotL opA at *
  go_enter Try.func66, Try.ntmps66
  go_wp2_with fail
  refine (gt_mark T c s 0 _ HK2.out hm).mono ?_
  rintro e w3 ⟨rfl, K3, t3⟩
  have KG3 : Blk w3 w.heap.size 42 (gotL ok gn gm gL gid gV gt) := HKG.out.tch t3 (fun e => hne1 e.symm)
  have KR3 : Blk w3 (w.heap.size + 1) 44 (opA 0 0 0 0) := HKR.out.tch t3 (fun e => hne2 e.symm)
  have T3 : Tch (fun k => k = T) w w3 := HT2.out.trans t3 fun _ q => .inl q
  clear HKG HKR HT2 HK2 t3 c8
  have g1 : w3.cell? ⟨w.heap.size, 1, none⟩ = some (.int .i64 gn) := KG3.cell 1
  have c34 : w3.cell? ⟨T, 34, none⟩ = some (.int .i64 s.len) := Blk.cell K3 34
  have f34 := Blk.frozen K3 34
  have K4 : TaskAt (w3.setCell ⟨T, 34, none⟩ (.int .i64 gn)) T c { s with marks := s.marks + 1, err := 0, len := gn } := Blk.set_ K3 34 (.int .i64 gn)
  have KR4 : Blk (w3.setCell ⟨T, 34, none⟩ (.int .i64 gn)) (w.heap.size + 1) 44 (opA 0 0 0 0) := KR3.far (p := ⟨T, 34, none⟩) (fun e => hne2 e.symm) _
  have T4 : Tch (fun k => k = T) w (w3.setCell ⟨T, 34, none⟩ (.int .i64 gn)) := Tch.setCell (S := fun k => k = T) T3 (g := T) rfl 34 _
  clear KG3 KR3 K3 T3
  go_upto_region 26 with fail
  obtain ⟨w4, hw4⟩ : ∃ x, w3.setCell ⟨T, 34, none⟩ (.int .i64 gn) = x := ⟨_, rfl⟩
  rw [hw4] at K4 KR4 T4 ⊢
  clear hw4
  have KF := Blk.put KR4 (opL 0 0 0 0) rfl
  have tf : Tch (fun k => k = w.heap.size + 1) w4 (World.setCells w4 (w.heap.size + 1) 0 (opL 0 0 0 0)) := Tch.setCells (S := fun k => k = w.heap.size + 1) (g := w.heap.size + 1) rfl _ _ _ (Tch.refl _ _)
  have KTF := TaskAt.tch K4 tf hne2
  have TF : Tch (fun k => k = T) w (World.setCells w4 (w.heap.size + 1) 0 (opL 0 0 0 0)) := (T4.trans tf fun _ q => .inr (by omega))
  have hKF := Lib.hid KF
  have hKTF := Lib.hid KTF
  have hTF := Lib.hid TF
  obtain ⟨⟨r0, r1, r2, r3, r4, r5, r6, r7, r8, r9⟩, rf⟩ := op_cells KR4
  clear KF tf KTF TF
  go_step
  go_step
  go_step
  first | go_values | go_skip | go_guarded | go_step | go_upon
  go_step
  go_step
  clear r0 r1 r2 r3 r4 r5 r6 r7 r8 r9 rf
  conv => arg 2; change World.setCells w4 (w.heap.size + 1) 0 (opL 0 0 0 0)
  obtain ⟨wF, hF⟩ : ∃ x, World.setCells w4 (w.heap.size + 1) 0 (opL 0 0 0 0) = x := ⟨_, rfl⟩
  rw [hF] at hKF hKTF hTF ⊢
  clear hF
  go_wp2_with fail
  obtain ⟨⟨m0, m1, m2, m3, m4, m5, m6, m7, m8, m9⟩, _⟩ := op_cells (w := wF) (r := w.heap.size + 1) (k := 0) (a := 0) (n := 0) (id := 0) hKF.out
  refine bodyPost_ret (v := .agg (opA 0 0 0 0)) ?_ rfl ⟨rfl, ⟨_, hKTF.out, rfl⟩, hTF.out⟩
  simp [results, Try.results66, go_sem, opA, m0, m1, m2, m3, m4, m5, m6, m7, m8, m9]
set_option maxRecDepth 100000 in
set_option maxHeartbeats 4000000 in
theorem follow_15t (T : Nat) (c : Tk) (s : Ts) (ok : Bool) (gn gm : Int) (gL : Value) (gid : Int) (gV : Value) (gt : Int) (w : World) (h : TaskAt w T c s) (hk : s.ok = 15) (hm : s.marks ≤ 4611686018427387904) (hok : ok = true) :
    Calls Try.prog 66 #[.pointer (some ⟨T, 0, none⟩), .agg (gotL ok gn gm gL gid gV gt)] w (RetF T c w 27 gn 0 0 (fun _ s' => s' = { s with marks := s.marks + 1, err := 0 })) := by
  have hT := h.lt
  have hne1 : T ≠ w.heap.size := by omega
  have hne2 : T ≠ w.heap.size + 1 := by omega
  have K2 : TaskAt ((w.alloc (.cells (gotL ok gn gm gL gid gV gt) 42)).alloc (.cells (opA 0 0 0 0) 44)) T c s := (Blk.alloc (Blk.alloc h _) _)
  have c8 : ((w.alloc (.cells (gotL ok gn gm gL gid gV gt) 42)).alloc (.cells (opA 0 0 0 0) 44)).cell? ⟨T, 8, none⟩ = some (.int .i64 15) := by
    rw [← hk]; exact Blk.cell K2 8
  have hs1 : (w.alloc (.cells (gotL ok gn gm gL gid gV gt) 42)).heap.size = w.heap.size + 1 := by simp only [World.alloc, Array.size_push]
  have KG := (Blk.new w 42 (gotL ok gn gm gL gid gV gt)).alloc (.cells (opA 0 0 0 0) 44)
  have KR := op_new (w.alloc (.cells (gotL ok gn gm gL gid gV gt) 42)) 0 0 0 0
  rw [hs1] at KR
  have t2 : Tch (fun k => k = T) w ((w.alloc (.cells (gotL ok gn gm gL gid gV gt) 42)).alloc (.cells (opA 0 0 0 0) 44)) := ((Tch.refl _ w).alloc _).alloc _
  have HKG := Lib.hid KG
  have HKR := Lib.hid KR
  have HT2 := Lib.hid t2
  have HK2 := Lib.hid K2
  clear K2 KG KR t2 hs1 hk
  subst hok
  unfold gotL opA at *
  go_enter Try.func66, Try.ntmps66
  go_wp2_with fail
  refine (gt_mark T c s 0 _ HK2.out hm).mono ?_
  rintro e w3 ⟨rfl, K3, t3⟩
  have KG3 : Blk w3 w.heap.size 42 (gotL true gn gm gL gid gV gt) := HKG.out.tch t3 (fun e => hne1 e.symm)
  have KR3 : Blk w3 (w.heap.size + 1) 44 (opA 0 0 0 0) := HKR.out.tch t3 (fun e => hne2 e.symm)
  have T3 : Tch (fun k => k = T) w w3 := HT2.out.trans t3 fun _ q => .inl q
  clear HKG HKR HT2 HK2 t3 c8
  have g1 : w3.cell? ⟨w.heap.size, 1, none⟩ = some (.int .i64 gn) := KG3.cell 1
  clear KG3
  have KF := Blk.put KR3 (opL 27 gn 0 0) rfl
  have tf : Tch (fun k => k = w.heap.size + 1) w3 (World.setCells w3 (w.heap.size + 1) 0 (opL 27 gn 0 0)) := Tch.setCells (S := fun k => k = w.heap.size + 1) (g := w.heap.size + 1) rfl _ _ _ (Tch.refl _ _)
  have KTF := TaskAt.tch K3 tf hne2
  have TF : Tch (fun k => k = T) w (World.setCells w3 (w.heap.size + 1) 0 (opL 27 gn 0 0)) := (T3.trans tf fun _ q => .inr (by omega))
  have hKF := Lib.hid KF
  have hKTF := Lib.hid KTF
  have hTF := Lib.hid TF
  obtain ⟨⟨r0, r1, r2, r3, r4, r5, r6, r7, r8, r9⟩, rf⟩ := op_cells KR3
  clear KF tf KTF TF
  go_wp2_with fail
  clear r0 r1 r2 r3 r4 r5 r6 r7 r8 r9 rf
  change bodyPost _ _ _ _ _ (World.setCells w3 (w.heap.size + 1) 0 (opL 27 gn 0 0))
  obtain ⟨wF, hF⟩ : ∃ x, World.setCells w3 (w.heap.size + 1) 0 (opL 27 gn 0 0) = x := ⟨_, rfl⟩
  rw [hF] at hKF hKTF hTF ⊢
  obtain ⟨⟨m0, m1, m2, m3, m4, m5, m6, m7, m8, m9⟩, _⟩ := op_cells (w := wF) (r := w.heap.size + 1) (k := 27) (a := gn) (n := 0) (id := 0) hKF.out
  refine bodyPost_ret (v := .agg (opA 27 gn 0 0)) ?_ rfl ⟨rfl, ⟨_, hKTF.out, rfl⟩, hTF.out⟩
  simp [results, Try.results66, go_sem, opA, m0, m1, m2, m3, m4, m5, m6, m7, m8, m9]
set_option maxRecDepth 100000 in
set_option maxHeartbeats 4000000 in
theorem follow_15f (T : Nat) (c : Tk) (s : Ts) (ok : Bool) (gn gm : Int) (gL : Value) (gid : Int) (gV : Value) (gt : Int) (w : World) (h : TaskAt w T c s) (hk : s.ok = 15) (hm : s.marks ≤ 4611686018427387904) (hok : ok = false) :
    Calls Try.prog 66 #[.pointer (some ⟨T, 0, none⟩), .agg (gotL ok gn gm gL gid gV gt)] w (RetF T c w 6 0 0 0 (fun _ s' => s' = { s with marks := s.marks + 1, err := 3 })) := by
  have hT := h.lt
  have hne1 : T ≠ w.heap.size := by omega
  have hne2 : T ≠ w.heap.size + 1 := by omega
  have K2 : TaskAt ((w.alloc (.cells (gotL ok gn gm gL gid gV gt) 42)).alloc (.cells (opA 0 0 0 0) 44)) T c s := (Blk.alloc (Blk.alloc h _) _)
  have c8 : ((w.alloc (.cells (gotL ok gn gm gL gid gV gt) 42)).alloc (.cells (opA 0 0 0 0) 44)).cell? ⟨T, 8, none⟩ = some (.int .i64 15) := by
    rw [← hk]; exact Blk.cell K2 8
  have hs1 : (w.alloc (.cells (gotL ok gn gm gL gid gV gt) 42)).heap.size = w.heap.size + 1 := by simp only [World.alloc, Array.size_push]
  have KG := (Blk.new w 42 (gotL ok gn gm gL gid gV gt)).alloc (.cells (opA 0 0 0 0) 44)
  have KR := op_new (w.alloc (.cells (gotL ok gn gm gL gid gV gt) 42)) 0 0 0 0
  rw [hs1] at KR
  have t2 : Tch (fun k => k = T) w ((w.alloc (.cells (gotL ok gn gm gL gid gV gt) 42)).alloc (.cells (opA 0 0 0 0) 44)) := ((Tch.refl _ w).alloc _).alloc _
  have HKG := Lib.hid KG
  have HKR := Lib.hid KR
  have HT2 := Lib.hid t2
  have HK2 := Lib.hid K2
  clear K2 KG KR t2 hs1 hk
  subst hok
  unfold gotL opA at *
  go_enter Try.func66, Try.ntmps66
  go_wp2_with fail
  refine (gt_mark T c s 3 _ HK2.out hm).mono ?_
  rintro e w3 ⟨rfl, K3, t3⟩
  have KG3 : Blk w3 w.heap.size 42 (gotL false gn gm gL gid gV gt) := HKG.out.tch t3 (fun e => hne1 e.symm)
  have KR3 : Blk w3 (w.heap.size + 1) 44 (opA 0 0 0 0) := HKR.out.tch t3 (fun e => hne2 e.symm)
  have T3 : Tch (fun k => k = T) w w3 := HT2.out.trans t3 fun _ q => .inl q
  clear HKG HKR HT2 HK2 t3 c8
  clear KG3
  have KF := Blk.put KR3 (opL 6 0 0 0) rfl
  have tf : Tch (fun k => k = w.heap.size + 1) w3 (World.setCells w3 (w.heap.size + 1) 0 (opL 6 0 0 0)) := Tch.setCells (S := fun k => k = w.heap.size + 1) (g := w.heap.size + 1) rfl _ _ _ (Tch.refl _ _)
  have KTF := TaskAt.tch K3 tf hne2
  have TF : Tch (fun k => k = T) w (World.setCells w3 (w.heap.size + 1) 0 (opL 6 0 0 0)) := (T3.trans tf fun _ q => .inr (by omega))
  have hKF := Lib.hid KF
  have hKTF := Lib.hid KTF
  have hTF := Lib.hid TF
  obtain ⟨⟨r0, r1, r2, r3, r4, r5, r6, r7, r8, r9⟩, rf⟩ := op_cells KR3
  clear KF tf KTF TF
  go_wp2_with fail
  clear r0 r1 r2 r3 r4 r5 r6 r7 r8 r9 rf
  change bodyPost _ _ _ _ _ (World.setCells w3 (w.heap.size + 1) 0 (opL 6 0 0 0))
  obtain ⟨wF, hF⟩ : ∃ x, World.setCells w3 (w.heap.size + 1) 0 (opL 6 0 0 0) = x := ⟨_, rfl⟩
  rw [hF] at hKF hKTF hTF ⊢
  obtain ⟨⟨m0, m1, m2, m3, m4, m5, m6, m7, m8, m9⟩, _⟩ := op_cells (w := wF) (r := w.heap.size + 1) (k := 6) (a := 0) (n := 0) (id := 0) hKF.out
  refine bodyPost_ret (v := .agg (opA 6 0 0 0)) ?_ rfl ⟨rfl, ⟨_, hKTF.out, rfl⟩, hTF.out⟩
  simp [results, Try.results66, go_sem, opA, m0, m1, m2, m3, m4, m5, m6, m7, m8, m9]
set_option maxRecDepth 100000 in
set_option maxHeartbeats 4000000 in
theorem follow_6t (T : Nat) (c : Tk) (s : Ts) (ok : Bool) (gn gm : Int) (gL : Value) (gid : Int) (gV : Value) (gt : Int) (w : World) (h : TaskAt w T c s) (hk : s.ok = 6) (hon : 0 < s.on) :
    Calls Try.prog 66 #[.pointer (some ⟨T, 0, none⟩), .agg (gotL ok gn gm gL gid gV gt)] w (RetF T c w 15 0 0 c.id fun _ s' => s' = s) := by
  have hT := h.lt
  have t2 : Tch (fun k => k = T) w ((w.alloc (.cells (gotL ok gn gm gL gid gV gt) 42)).alloc (.cells (opA 15 0 0 c.id) 44)) := ((Tch.refl _ w).alloc _).alloc _
  have HK : Hid (TaskAt ((w.alloc (.cells (gotL ok gn gm gL gid gV gt) 42)).alloc (.cells (opA 15 0 0 c.id) 44)) T c s) := (Blk.alloc (Blk.alloc h _) _)
  have K2 : TaskAt ((w.alloc (.cells (gotL ok gn gm gL gid gV gt) 42)).alloc (.cells (opA 0 0 0 0) 44)) T c s := (Blk.alloc (Blk.alloc h _) _)
  have c8 : ((w.alloc (.cells (gotL ok gn gm gL gid gV gt) 42)).alloc (.cells (opA 0 0 0 0) 44)).cell? ⟨T, 8, none⟩ = some (.int .i64 6) := by
    rw [← hk]; exact Blk.cell K2 8
  have c11 : ((w.alloc (.cells (gotL ok gn gm gL gid gV gt) 42)).alloc (.cells (opA 0 0 0 0) 44)).cell? ⟨T, 11, none⟩ = some (.int .i64 s.on) := Blk.cell K2 11
  have c1 : ((w.alloc (.cells (gotL ok gn gm gL gid gV gt) 42)).alloc (.cells (opA 0 0 0 0) 44)).cell? ⟨T, 1, none⟩ = some (.int .u64 c.id) := Blk.cell K2 1
  have ton : decide (s.on > 0) = true := by simp; omega
  obtain ⟨son, hson⟩ : ∃ x, s.on = x := ⟨_, rfl⟩
  rw [hson] at c11 ton
  have HT2 := Lib.hid t2
  have KR := Lib.hid (op_new (w.alloc (.cells (gotL ok gn gm gL gid gV gt) 42)) 15 0 0 c.id)
  have hs1 : (w.alloc (.cells (gotL ok gn gm gL gid gV gt) 42)).heap.size = w.heap.size + 1 := by simp only [World.alloc, Array.size_push]
  rw [hs1] at KR
  clear h t2 hs1 K2 hk hson hon
  unfold gotL opA at *
  go_enter Try.func66, Try.ntmps66
  go_wp2_with fail
  obtain ⟨⟨m0, m1, m2, m3, m4, m5, m6, m7, m8, m9⟩, _⟩ := op_cells KR.out
  refine bodyPost_ret (v := .agg (opA 15 0 0 c.id)) ?_ rfl ⟨rfl, ⟨s, HK.out, rfl⟩, HT2.out⟩
  simp [results, Try.results66, go_sem, opA, m0, m1, m2, m3, m4, m5, m6, m7, m8, m9]
set_option maxRecDepth 100000 in
set_option maxHeartbeats 4000000 in
theorem follow_6f (T : Nat) (c : Tk) (s : Ts) (ok : Bool) (gn gm : Int) (gL : Value) (gid : Int) (gV : Value) (gt : Int) (w : World) (h : TaskAt w T c s) (hk : s.ok = 6) (hon : s.on ≤ 0) :
    Calls Try.prog 66 #[.pointer (some ⟨T, 0, none⟩), .agg (gotL ok gn gm gL gid gV gt)] w (RetF T c w 0 0 0 0 fun _ s' => s' = s) := by
  have hT := h.lt
  have t2 : Tch (fun k => k = T) w ((w.alloc (.cells (gotL ok gn gm gL gid gV gt) 42)).alloc (.cells (opA 0 0 0 0) 44)) := ((Tch.refl _ w).alloc _).alloc _
  have HK : Hid (TaskAt ((w.alloc (.cells (gotL ok gn gm gL gid gV gt) 42)).alloc (.cells (opA 0 0 0 0) 44)) T c s) := (Blk.alloc (Blk.alloc h _) _)
  have K2 : TaskAt ((w.alloc (.cells (gotL ok gn gm gL gid gV gt) 42)).alloc (.cells (opA 0 0 0 0) 44)) T c s := (Blk.alloc (Blk.alloc h _) _)
  have c8 : ((w.alloc (.cells (gotL ok gn gm gL gid gV gt) 42)).alloc (.cells (opA 0 0 0 0) 44)).cell? ⟨T, 8, none⟩ = some (.int .i64 6) := by
    rw [← hk]; exact Blk.cell K2 8
  have c11 : ((w.alloc (.cells (gotL ok gn gm gL gid gV gt) 42)).alloc (.cells (opA 0 0 0 0) 44)).cell? ⟨T, 11, none⟩ = some (.int .i64 s.on) := Blk.cell K2 11
  have c1 : ((w.alloc (.cells (gotL ok gn gm gL gid gV gt) 42)).alloc (.cells (opA 0 0 0 0) 44)).cell? ⟨T, 1, none⟩ = some (.int .u64 c.id) := Blk.cell K2 1
  have ton : decide (s.on > 0) = false := by simp; omega
  obtain ⟨son, hson⟩ : ∃ x, s.on = x := ⟨_, rfl⟩
  rw [hson] at c11 ton
  have HT2 := Lib.hid t2
  have KR := Lib.hid (op_new (w.alloc (.cells (gotL ok gn gm gL gid gV gt) 42)) 0 0 0 0)
  have hs1 : (w.alloc (.cells (gotL ok gn gm gL gid gV gt) 42)).heap.size = w.heap.size + 1 := by simp only [World.alloc, Array.size_push]
  rw [hs1] at KR
  clear h t2 hs1 K2 hk hson hon
  unfold gotL opA at *
  go_enter Try.func66, Try.ntmps66
  go_wp2_with fail
  obtain ⟨⟨m0, m1, m2, m3, m4, m5, m6, m7, m8, m9⟩, _⟩ := op_cells KR.out
  refine bodyPost_ret (v := .agg (opA 0 0 0 0)) ?_ rfl ⟨rfl, ⟨s, HK.out, rfl⟩, HT2.out⟩
  simp [results, Try.results66, go_sem, opA, m0, m1, m2, m3, m4, m5, m6, m7, m8, m9]
end Go.Proofs.Ytkhnnjeinpojkaa
