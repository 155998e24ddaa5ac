/- The order in which things are found: comparisons of numbers, of hits, of spots. Printed by genRkA.py. -/
import Derived.Test.YtpcbfoddlpgdjaaRow
import Derived.Test.YtpcbfoddlpgdjaaRs
import Derived.Test.YtpcbfoddlpgdjaaTch
import Derived.Test.YtpcbfoddlpgdjaaYlP
import Derived.Deep.Draws
import Derived.Deep.RegionHeld
import Derived.Shelf.Abstract
import Derived.Great.BuildSlice
import Derived.Sort.Grow
import Derived.Deep.Cut
namespace Go.Proofs.Ytpcbfoddlpgdjaa
open Go.RowKit
/-- Who is told by a spot: how far, whose, and where. -/
structure Sp where
  d : Int
  id : Int
  s : Int
def hitV (x : Sp) : Value := .agg #[.int .u64 x.d, .int .u64 x.id]
def spC (x : Sp) : Array Value := #[.int .u64 x.d, .int .u64 x.id, .int .i64 x.s]
def spV (x : Sp) : Value := .agg #[.int .u64 x.d, .int .u64 x.id, .int .i64 x.s]
def cmpI (x y : Int) : Int := if x < y then -1 else if y < x then 1 else 0
def ordI (a b : Sp) : Int := if cmpI a.d b.d = 0 then cmpI a.id b.id else cmpI a.d b.d
def plI (a b : Sp) : Int := if ordI a b = 0 then cmpI a.s b.s else ordI a b
/-- What is made, and drawn, and nothing else. -/
def Gw (w w' : World) : Prop := ∃ q os, w' = Go.Sort.grow (w.drewN q) os
theorem Gw.refl (w : World) : Gw w w := ⟨0, #[], by simp [Go.Sort.grow, World.drewN]⟩
theorem drewN_drewN (w : World) (p q : Nat) : (w.drewN p).drewN q = w.drewN (p + q) := by simp [World.drewN, Nat.add_assoc]
theorem grow_drewN (w : World) (os : Array Obj) (q : Nat) : (Go.Sort.grow w os).drewN q = Go.Sort.grow (w.drewN q) os := rfl
theorem Gw.trans {a b c : World} (h : Gw a b) (h' : Gw b c) : Gw a c := by
  obtain ⟨q, os, rfl⟩ := h
  obtain ⟨q', os', rfl⟩ := h'
  exact ⟨q + q', os ++ os', by rw [grow_drewN, drewN_drewN, Go.Sort.grow_grow]⟩
theorem Gw.alloc {a b : World} (h : Gw a b) (o : Obj) : Gw a (b.alloc o) := h.trans ⟨0, #[o], by rw [Go.Sort.alloc_eq_grow]; rfl⟩
theorem Gw.drewN {a b : World} (h : Gw a b) (n : Nat) : Gw a (b.drewN n) := h.trans ⟨n, #[], by rw [Go.Sort.grow_empty]⟩
theorem Gw.drew1 (w : World) : Gw w w.drew := ⟨1, #[], by rw [Go.Sort.grow_empty]; rfl⟩
theorem Gw.below {a b : World} (h : Gw a b) : Below a.heap.size a b := by
  obtain ⟨q, os, rfl⟩ := h
  exact ⟨rfl, rfl, rfl, by simp [Go.Sort.grow, World.drewN], fun k hk => (show ((a.drewN q).heap ++ os)[k]? = a.heap[k]? from Array.getElem?_append_left hk)⟩
theorem exec_loadK {w : World} {o : Oper} {a : Act} {ty : TypeId} {p v : Value} {x : Operand} (ho : o.op = .load ty x) (hx : a.eval x = p) (hr : (Instr.loadAt ty p).run Try.prog w = .ok v w) : (execOp a.eval o).run Try.prog w = .ok (.value v) w := by
  unfold execOp
  simp only [ho, hx, Sem.run_bind, hr, Result.andThen_ok]
  rfl
theorem load_u64K {w : World} {b o : Nat} {v : Int} (h : w.cell? ⟨b, o, none⟩ = some (.int .u64 v)) : (Instr.loadAt 31 (.pointer (some ⟨b, o, none⟩))).run Try.prog w = .ok (.int .u64 v) w := by
  simp [go_sem, h]
theorem load_i64K {w : World} {b o : Nat} {v : Int} (h : w.cell? ⟨b, o, none⟩ = some (.int .i64 v)) : (Instr.loadAt 3 (.pointer (some ⟨b, o, none⟩))).run Try.prog w = .ok (.int .i64 v) w := by
  simp [go_sem, h]
theorem wpAnyH_makeK {P : Program} {ops : Array Oper} {Q : Exit → Act → World → Prop} {md : Region.Mode} {S : World → Prop} {fuel : Nat} {listed : Array Bool} {a : Act} {w w' : World} {o : Oper} (i : Nat) (v : Value) (hr : Region.ready md ops listed = [i]) (ho : ops[i]? = some o) (hw : Region.wanted o (yielded ops a.tmps) = true)
    (hrun : (execOp a.eval o).run P w = .ok (.value v) w') (hS : S w') (h : wpAnyH P md ops Q S fuel (listed.setIfInBounds i true) (a.put o.dst v) w') : wpAnyH P md ops Q S (fuel + 1) listed a w := by
  refine wpAnyH_ready hr (by simp) (AllReadyH.cons ho (fun K hK => ?_) AllReadyH.nil)
  rw [if_pos hw]
  unfold Oper.wp
  rw [hrun]
  exact hK.out _ _ hS (fun _ => h)
theorem info_intK : (Try.prog.info? 3).map (fun i => (i.zero, i.size, i.bytes)) = some (some (.int .i64 0), 1, 8) := by kernel_rfl
theorem hitT : (Try.prog.info? 33).map (·.size) = some 2 := by kernel_rfl
theorem spotTK : (Try.prog.info? 35).map (·.size) = some 3 := by kernel_rfl
theorem hit_in {w : World} {b t : Nat} {x : Sp} (h : Blk w b t #[.int .u64 x.d, .int .u64 x.id, .int .i64 x.s]) : (Instr.loadAt 33 (.pointer (some ⟨b, 0, none⟩))).run Try.prog w = .ok (hitV x) w :=
  row_load_mid h 0 #[.int .u64 x.d, .int .u64 x.id] rfl Try.underlying33 rfl hitT
theorem sp_load {w : World} {b t : Nat} {x : Sp} (h : Blk w b t #[.int .u64 x.d, .int .u64 x.id, .int .i64 x.s]) : (Instr.loadAt 35 (.pointer (some ⟨b, 0, none⟩))).run Try.prog w = .ok (spV x) w :=
  row_load h Try.underlying35 rfl spotTK
theorem run_ints2 (w : World) (x y : Int) : (Instr.buildSlice 46 2 #[(0, .int .i64 x), (1, .int .i64 y)]).run Try.prog w = .ok (.slice (some ⟨w.heap.size, 0, none⟩) 2 2) (w.alloc (.cells #[.int .i64 x, .int .i64 y] 3)) := by
  obtain ⟨i, hi, hz, hz1, hz2⟩ := info_parts info_intK
  refine Go.run_buildSlice w _ _ 2 _ _ i (.int .i64 0) Try.underlying46 hi hz (by rw [hz1]; decide) (by rw [hz1]; decide) ?_
  rw [hz1]; kernel_rfl
theorem exec_ints2 {o : Oper} {a : Act} {x y : Int} {parts : Array (Nat × Operand)} (ho : o.op = .buildSlice 46 2 parts) (hp : (parts.map fun (i, y) => (i, a.eval y)) = #[(0, .int .i64 x), (1, .int .i64 y)]) (w : World) : (execOp a.eval o).run Try.prog w = .ok (.value (.slice (some ⟨w.heap.size, 0, none⟩) 2 2)) (w.alloc (.cells #[.int .i64 x, .int .i64 y] 3)) := by
  unfold execOp
  simp only [ho, hp, Sem.run_bind, run_ints2, Result.andThen_ok]
  rfl
set_option maxRecDepth 100000 in
theorem nan_i64 (x : Int) (w : World) : Calls Try.prog 61 #[.int .i64 x] w fun e w' => e = .returned (.bool false) ∧ w = w' := by
  have t : (x == x) = true := beq_self_eq_true _
  go_enter Try.func61, Try.ntmps61
  go_wp2_with fail
  go_ret
  exact ⟨by simp, rfl⟩
set_option maxRecDepth 100000 in
theorem cmp_int (x y : Int) (w : World) : Calls Try.prog 55 #[.int .i64 x, .int .i64 y] w fun e w' => e = .returned (.int .i64 (cmpI x y)) ∧ w = w' := by
  unfold cmpI
  rcases (by omega : x < y ∨ (¬ x < y ∧ y < x) ∨ (¬ x < y ∧ ¬ y < x)) with h | ⟨h, h2⟩ | ⟨h, h2⟩
  · rw [if_pos h]
    have t : decide (x < y) = true := decide_eq_true h
    clear h
    go_enter Try.func55, Try.ntmps55
    go_wp2_with (go_at_call 61; refine (nan_i64 _ _).mono ?_; rintro e w' ⟨rfl, rfl⟩)
    go_ret
    exact ⟨rfl, rfl⟩
  · rw [if_neg h, if_pos h2]
    have t : decide (x < y) = false := decide_eq_false h
    have t2 : decide (y < x) = true := decide_eq_true h2
    clear h h2
    go_enter Try.func55, Try.ntmps55
    go_wp2_with (go_at_call 61; refine (nan_i64 _ _).mono ?_; rintro e w' ⟨rfl, rfl⟩)
    go_ret
    exact ⟨rfl, rfl⟩
  · rw [if_neg h, if_neg h2]
    have t : decide (x < y) = false := decide_eq_false h
    have t2 : decide (y < x) = false := decide_eq_false h2
    clear h h2
    go_enter Try.func55, Try.ntmps55
    go_wp2_with (go_at_call 61; refine (nan_i64 _ _).mono ?_; rintro e w' ⟨rfl, rfl⟩)
    go_ret
    exact ⟨rfl, rfl⟩
set_option maxRecDepth 100000 in
theorem nan_u64 (x : Int) (w : World) : Calls Try.prog 74 #[.int .u64 x] w fun e w' => e = .returned (.bool false) ∧ w = w' := by
  have t : (x == x) = true := beq_self_eq_true _
  go_enter Try.func74, Try.ntmps74
  go_wp2_with fail
  go_ret
  exact ⟨by simp, rfl⟩
set_option maxRecDepth 100000 in
theorem cmp_u64 (x y : Int) (w : World) : Calls Try.prog 60 #[.int .u64 x, .int .u64 y] w fun e w' => e = .returned (.int .i64 (cmpI x y)) ∧ w = w' := by
  unfold cmpI
  rcases (by omega : x < y ∨ (¬ x < y ∧ y < x) ∨ (¬ x < y ∧ ¬ y < x)) with h | ⟨h, h2⟩ | ⟨h, h2⟩
  · rw [if_pos h]
    have t : decide (x < y) = true := decide_eq_true h
    clear h
    go_enter Try.func60, Try.ntmps60
    go_wp2_with (go_at_call 74; refine (nan_u64 _ _).mono ?_; rintro e w' ⟨rfl, rfl⟩)
    go_ret
    exact ⟨rfl, rfl⟩
  · rw [if_neg h, if_pos h2]
    have t : decide (x < y) = false := decide_eq_false h
    have t2 : decide (y < x) = true := decide_eq_true h2
    clear h h2
    go_enter Try.func60, Try.ntmps60
    go_wp2_with (go_at_call 74; refine (nan_u64 _ _).mono ?_; rintro e w' ⟨rfl, rfl⟩)
    go_ret
    exact ⟨rfl, rfl⟩
  · rw [if_neg h, if_neg h2]
    have t : decide (x < y) = false := decide_eq_false h
    have t2 : decide (y < x) = false := decide_eq_false h2
    clear h h2
    go_enter Try.func60, Try.ntmps60
    go_wp2_with (go_at_call 74; refine (nan_u64 _ _).mono ?_; rintro e w' ⟨rfl, rfl⟩)
    go_ret
    exact ⟨rfl, rfl⟩
set_option maxRecDepth 100000 in
theorem cmp_orK (A : Option Addr) (L : Nat) (x y : Int) (w : World) (hr : Rd w L A 2 ([x, y].map (.int .i64))) :
    Calls Try.prog 53 #[.slice A 2 2] w fun e w' => e = .returned (.int .i64 (if x = 0 then y else x)) ∧ w = w' := by
  have H := Lib.hid hr
  obtain ⟨b, o, rfl, hb, hc0⟩ := hr.atI (k := 0) (by decide)
  obtain ⟨b', o', e', _, hc1⟩ := hr.atI (k := 1) (by decide)
  obtain ⟨rfl, rfl⟩ : b = b' ∧ o = o' := by injection e' with e'; injection e' with h1 h2; exact ⟨h1, h2⟩
  have hx : ig [x, y] 0 = x := rfl
  have hy : ig [x, y] 1 = y := rfl
  rw [hx, Nat.add_zero] at hc0
  rw [hy] at hc1
  clear hr e' H
  by_cases h0 : x = 0
  · subst h0
    by_cases h1 : y = 0
    · subst h1
      go_enter Try.func53, Try.ntmps53
      go_wp2_with fail
      go_loopw [8] (fun i wr => ∃ k : Nat, k ≤ 2 ∧ i = .int .i64 k ∧ w = wr) (fun i _ => 2 - (intOf i).toNat)
      case atStart => exact ⟨0, by decide, rfl, rfl⟩
      case round =>
        obtain ⟨k, hk, rfl, rfl⟩ := hrel
        rcases (by omega : k = 0 ∨ k = 1 ∨ k = 2) with rfl | rfl | rfl
        · go_wp2_with fail
          go_roundw
          case rel => exact ⟨1, by decide, by go_num, trivial⟩
          case measure => simp [intOf]
        · go_wp2_with fail
          go_roundw
          case rel => exact ⟨2, by decide, by go_num, trivial⟩
          case measure => simp [intOf]
        · go_wp2_with fail
          go_ret
          exact ⟨rfl, rfl⟩
    · have ty : (y == 0) = false := beq_false_of_ne h1
      go_enter Try.func53, Try.ntmps53
      go_wp2_with fail
      go_loopw [8] (fun i wr => ∃ k : Nat, k ≤ 1 ∧ i = .int .i64 k ∧ w = wr) (fun i _ => 2 - (intOf i).toNat)
      case atStart => exact ⟨0, by decide, rfl, rfl⟩
      case round =>
        obtain ⟨k, hk, rfl, rfl⟩ := hrel
        rcases (by omega : k = 0 ∨ k = 1) with rfl | rfl
        · go_wp2_with fail
          go_roundw
          case rel => exact ⟨1, by decide, by go_num, trivial⟩
          case measure => simp [intOf]
        · go_wp2_with fail
          go_ret
          exact ⟨rfl, rfl⟩
  · have tx : (x == 0) = false := beq_false_of_ne h0
    rw [if_neg h0]
    go_enter Try.func53, Try.ntmps53
    go_wp2_with fail
    go_loopw [8] (fun i wr => i = .int .i64 0 ∧ w = wr) (fun i _ => 2 - (intOf i).toNat)
    case atStart => exact ⟨rfl, rfl⟩
    case round =>
      obtain ⟨rfl, rfl⟩ := hrel
      go_wp2_with fail
      go_ret
      exact ⟨rfl, rfl⟩
theorem ints2_newK (w : World) (t : Nat) (x y : Int) : Rd (w.alloc (.cells #[.int .i64 x, .int .i64 y] t)) (w.alloc (.cells #[.int .i64 x, .int .i64 y] t)).heap.size (some ⟨w.heap.size, 0, none⟩) 2 ([x, y].map (.int .i64)) :=
  IB.rd (g := w.heap.size) (t := t) (cs := [x, y]) ⟨[], by rw [heap_alloc_new]; simp⟩
set_option maxRecDepth 100000 in
set_option maxHeartbeats 2000000 in
theorem rank_order (a b : Sp) (w : World) : Calls Try.prog 54 #[hitV a, hitV b] w fun e w' => e = .returned (.int .i64 (ordI a b)) ∧ Gw w w' := by
  obtain ⟨z, hz⟩ : ∃ z, ordI a b = z := ⟨_, rfl⟩
  rw [hz]
  have HZ := Lib.hid hz
  unfold ordI at HZ
  clear hz
  obtain ⟨w1, hw1⟩ : ∃ x, w.alloc (.cells #[.int .u64 a.d, .int .u64 a.id] 33) = x := ⟨_, rfl⟩
  obtain ⟨w2, hw2⟩ : ∃ x, w1.alloc (.cells #[.int .u64 b.d, .int .u64 b.id] 33) = x := ⟨_, rfl⟩
  have b2 : Below w1.heap.size w1 w2 := by rw [← hw2]; exact (Below.refl _ w1).alloc (Nat.le_refl _) _
  have e1 : w1.heap.size = w.heap.size + 1 := by rw [← hw1]; simp only [World.alloc, Array.size_push]
  have k1 : Blk w1 w.heap.size 33 #[.int .u64 a.d, .int .u64 a.id] := by rw [← hw1]; exact Blk.new _ _ _
  have HA := Lib.hid (k1.below b2 k1.lt)
  have HB : Hid (Blk w2 (w.heap.size + 1) 33 #[.int .u64 b.d, .int .u64 b.id]) := by show Blk _ _ _ _; rw [← hw2, ← e1]; exact Blk.new _ _ _
  have HG : Hid (Gw w w2) := by show Gw _ _; rw [← hw2, ← hw1]; exact Gw.alloc (Gw.alloc (Gw.refl w) _) _
  clear b2 k1
  have HE := Lib.hid e1
  go_enter Try.func54, Try.ntmps54
  unfold hitV
  go_upto_region 1 with fail
  (try simp only [hw1])
  (try rw [HE.out])
  (try rw [e1])
  (try rw [hw2])
  clear hw1 hw2 e1
  refine wp_region_held_drew (S := fun w' => Gw w2 w') (by kernel_rfl) (Gw.drew1 w2) (fun hH => ?_)
  refine wpAnyH_take (i := 0) (v := .pointer (some ⟨w.heap.size, 0, none⟩)) rfl (by kernel_rfl) (by kernel_rfl) (by kernel_rfl) (fun _ _ _ h => h) (.inl ⟨by rfl, fun _ _ => by kernel_rfl⟩) hH ?_
  (try simp only [List.getElem_toArray, List.getElem_cons_zero, Act.put, List.setIfInBounds_toArray, List.set_cons_zero, List.set_cons_succ])
  refine wpAnyH_take (i := 1) (v := .int .u64 a.d) rfl (by kernel_rfl) (by kernel_rfl) (by kernel_rfl) (fun _ _ _ h => h) (yieldsIf_loadP (by rfl) _ rfl rfl (fun _ q => load_u64K ((HA.out.below q.below HA.out.lt).cell 0))) hH ?_
  (try simp only [List.getElem_toArray, List.getElem_cons_zero, List.getElem_cons_succ, Act.put, List.setIfInBounds_toArray, List.set_cons_zero, List.set_cons_succ])
  refine wpAnyH_take (i := 2) (v := .pointer (some ⟨(w.heap.size + 1), 0, none⟩)) rfl (by kernel_rfl) (by kernel_rfl) (by kernel_rfl) (fun _ _ _ h => h) (.inl ⟨by rfl, fun _ _ => by kernel_rfl⟩) hH ?_
  (try simp only [List.getElem_toArray, List.getElem_cons_zero, List.getElem_cons_succ, Act.put, List.setIfInBounds_toArray, List.set_cons_zero, List.set_cons_succ])
  refine wpAnyH_take (i := 3) (v := .int .u64 b.d) rfl (by kernel_rfl) (by kernel_rfl) (by kernel_rfl) (fun _ _ _ h => h) (yieldsIf_loadP (by rfl) _ rfl rfl (fun _ q => load_u64K ((HB.out.below q.below HB.out.lt).cell 0))) hH ?_
  (try simp only [List.getElem_toArray, List.getElem_cons_zero, List.getElem_cons_succ, Act.put, List.setIfInBounds_toArray, List.set_cons_zero, List.set_cons_succ])
  refine wpAnyH_take (i := 5) (v := .pointer (some ⟨w.heap.size, 1, none⟩)) rfl (by kernel_rfl) (by kernel_rfl) (by kernel_rfl) (fun _ _ _ h => h) (.inl ⟨by rfl, fun _ _ => by kernel_rfl⟩) hH ?_
  (try simp only [List.getElem_toArray, List.getElem_cons_zero, List.getElem_cons_succ, Act.put, List.setIfInBounds_toArray, List.set_cons_zero, List.set_cons_succ])
  refine wpAnyH_take (i := 6) (v := .int .u64 a.id) rfl (by kernel_rfl) (by kernel_rfl) (by kernel_rfl) (fun _ _ _ h => h) (yieldsIf_loadP (by rfl) _ rfl rfl (fun _ q => load_u64K ((HA.out.below q.below HA.out.lt).cell 1))) hH ?_
  (try simp only [List.getElem_toArray, List.getElem_cons_zero, List.getElem_cons_succ, Act.put, List.setIfInBounds_toArray, List.set_cons_zero, List.set_cons_succ])
  refine wpAnyH_take (i := 7) (v := .pointer (some ⟨(w.heap.size + 1), 1, none⟩)) rfl (by kernel_rfl) (by kernel_rfl) (by kernel_rfl) (fun _ _ _ h => h) (.inl ⟨by rfl, fun _ _ => by kernel_rfl⟩) hH ?_
  (try simp only [List.getElem_toArray, List.getElem_cons_zero, List.getElem_cons_succ, Act.put, List.setIfInBounds_toArray, List.set_cons_zero, List.set_cons_succ])
  refine wpAnyH_take (i := 8) (v := .int .u64 b.id) rfl (by kernel_rfl) (by kernel_rfl) (by kernel_rfl) (fun _ _ _ h => h) (yieldsIf_loadP (by rfl) _ rfl rfl (fun _ q => load_u64K ((HB.out.below q.below HB.out.lt).cell 1))) hH ?_
  (try simp only [List.getElem_toArray, List.getElem_cons_zero, List.getElem_cons_succ, Act.put, List.setIfInBounds_toArray, List.set_cons_zero, List.set_cons_succ])
  refine wpAnyH_call 4 60 #[.int .u64 a.d, .int .u64 b.d] _ (by kernel_rfl) (by rfl) (by kernel_rfl) (by kernel_rfl) (cmp_u64 _ _ _) ?_
  rintro e Z1 ⟨rfl, rfl⟩
  have h1 := hH
  refine ⟨_, rfl, h1, ?_⟩
  (try simp only [List.getElem_toArray, List.getElem_cons_zero, List.getElem_cons_succ, Act.put, List.setIfInBounds_toArray, List.set_cons_zero, List.set_cons_succ])
  refine wpAnyH_call 9 60 #[.int .u64 a.id, .int .u64 b.id] _ (by kernel_rfl) (by rfl) (by kernel_rfl) (by kernel_rfl) (cmp_u64 _ _ _) ?_
  rintro e Z2 ⟨rfl, rfl⟩
  have h2 := h1
  refine ⟨_, rfl, h2, ?_⟩
  (try simp only [List.getElem_toArray, List.getElem_cons_zero, List.getElem_cons_succ, Act.put, List.setIfInBounds_toArray, List.set_cons_zero, List.set_cons_succ])
  refine wpAnyH_makeK 10 (.slice (some ⟨w2.drew.heap.size, 0, none⟩) 2 2) (by kernel_rfl) (by rfl) (by kernel_rfl) (exec_ints2 (x := cmpI a.d b.d) (y := cmpI a.id b.id) (by rfl) (by kernel_rfl) w2.drew) (Gw.alloc h2 _) ?_
  (try simp only [List.getElem_toArray, List.getElem_cons_zero, List.getElem_cons_succ, Act.put, List.setIfInBounds_toArray, List.set_cons_zero, List.set_cons_succ])
  have hs := Gw.alloc h2 (.cells #[.int .i64 (cmpI a.d b.d), .int .i64 (cmpI a.id b.id)] 3)
  refine wpAnyH_call 11 53 #[.slice (some ⟨w2.drew.heap.size, 0, none⟩) 2 2] _ (by kernel_rfl) (by rfl) (by kernel_rfl) (by kernel_rfl) (cmp_orK _ _ (cmpI a.d b.d) (cmpI a.id b.id) _ (ints2_newK w2.drew 3 (cmpI a.d b.d) (cmpI a.id b.id))) ?_
  rintro e V ⟨rfl, rfl⟩
  rw [HZ.out]
  refine ⟨_, rfl, hs, ?_⟩
  (try simp only [List.getElem_toArray, List.getElem_cons_zero, List.getElem_cons_succ, Act.put, List.setIfInBounds_toArray, List.set_cons_zero, List.set_cons_succ])
  refine wpAnyH_take (i := 12) (v := .int .i64 z) rfl (by kernel_rfl) (by kernel_rfl) (by kernel_rfl) (fun _ _ _ h => h) (.inl ⟨by rfl, fun _ _ => by kernel_rfl⟩) hs ?_
  (try simp only [List.getElem_toArray, List.getElem_cons_zero, List.getElem_cons_succ, Act.put, List.setIfInBounds_toArray, List.set_cons_zero, List.set_cons_succ])
  refine wpAnyH_done (by kernel_rfl) ?_ _
  go_wp2_with fail
  go_ret
  exact ⟨rfl, HG.out.trans hs⟩
set_option maxRecDepth 100000 in
set_option maxHeartbeats 2000000 in
theorem rank_place (a b : Sp) (w : World) : Calls Try.prog 37 #[spV a, spV b] w fun e w' => e = .returned (.int .i64 (plI a b)) ∧ Gw w w' := by
  obtain ⟨z, hz⟩ : ∃ z, plI a b = z := ⟨_, rfl⟩
  rw [hz]
  have HZ := Lib.hid hz
  unfold plI at HZ
  clear hz
  obtain ⟨w1, hw1⟩ : ∃ x, w.alloc (.cells #[.int .u64 a.d, .int .u64 a.id, .int .i64 a.s] 35) = x := ⟨_, rfl⟩
  obtain ⟨w2, hw2⟩ : ∃ x, w1.alloc (.cells #[.int .u64 b.d, .int .u64 b.id, .int .i64 b.s] 35) = x := ⟨_, rfl⟩
  have b2 : Below w1.heap.size w1 w2 := by rw [← hw2]; exact (Below.refl _ w1).alloc (Nat.le_refl _) _
  have e1 : w1.heap.size = w.heap.size + 1 := by rw [← hw1]; simp only [World.alloc, Array.size_push]
  have k1 : Blk w1 w.heap.size 35 #[.int .u64 a.d, .int .u64 a.id, .int .i64 a.s] := by rw [← hw1]; exact Blk.new _ _ _
  have HA := Lib.hid (k1.below b2 k1.lt)
  have HB : Hid (Blk w2 (w.heap.size + 1) 35 #[.int .u64 b.d, .int .u64 b.id, .int .i64 b.s]) := by show Blk _ _ _ _; rw [← hw2, ← e1]; exact Blk.new _ _ _
  have HG : Hid (Gw w w2) := by show Gw _ _; rw [← hw2, ← hw1]; exact Gw.alloc (Gw.alloc (Gw.refl w) _) _
  clear b2 k1
  have HE := Lib.hid e1
  go_enter Try.func37, Try.ntmps37
  unfold spV
  go_upto_region 1 with fail
  (try simp only [hw1])
  (try rw [HE.out])
  (try rw [e1])
  (try rw [hw2])
  clear hw1 hw2 e1
  refine wp_region_held_drew (S := fun w' => Gw w2 w') (by kernel_rfl) (Gw.drew1 w2) (fun hH => ?_)
  refine wpAnyH_take (i := 0) (v := .pointer (some ⟨w.heap.size, 0, none⟩)) rfl (by kernel_rfl) (by kernel_rfl) (by kernel_rfl) (fun _ _ _ h => h) (.inl ⟨by rfl, fun _ _ => by kernel_rfl⟩) hH ?_
  (try simp only [List.getElem_toArray, List.getElem_cons_zero, Act.put, List.setIfInBounds_toArray, List.set_cons_zero, List.set_cons_succ])
  refine wpAnyH_take (i := 1) (v := hitV a) rfl (by kernel_rfl) (by kernel_rfl) (by kernel_rfl) (fun _ _ _ h => h) (yieldsIf_loadP (by rfl) _ rfl rfl (fun _ q => hit_in (HA.out.below q.below HA.out.lt))) hH ?_
  (try simp only [List.getElem_toArray, List.getElem_cons_zero, List.getElem_cons_succ, Act.put, List.setIfInBounds_toArray, List.set_cons_zero, List.set_cons_succ])
  refine wpAnyH_take (i := 2) (v := .pointer (some ⟨(w.heap.size + 1), 0, none⟩)) rfl (by kernel_rfl) (by kernel_rfl) (by kernel_rfl) (fun _ _ _ h => h) (.inl ⟨by rfl, fun _ _ => by kernel_rfl⟩) hH ?_
  (try simp only [List.getElem_toArray, List.getElem_cons_zero, List.getElem_cons_succ, Act.put, List.setIfInBounds_toArray, List.set_cons_zero, List.set_cons_succ])
  refine wpAnyH_take (i := 3) (v := hitV b) rfl (by kernel_rfl) (by kernel_rfl) (by kernel_rfl) (fun _ _ _ h => h) (yieldsIf_loadP (by rfl) _ rfl rfl (fun _ q => hit_in (HB.out.below q.below HB.out.lt))) hH ?_
  (try simp only [List.getElem_toArray, List.getElem_cons_zero, List.getElem_cons_succ, Act.put, List.setIfInBounds_toArray, List.set_cons_zero, List.set_cons_succ])
  refine wpAnyH_take (i := 5) (v := .pointer (some ⟨w.heap.size, 2, none⟩)) rfl (by kernel_rfl) (by kernel_rfl) (by kernel_rfl) (fun _ _ _ h => h) (.inl ⟨by rfl, fun _ _ => by kernel_rfl⟩) hH ?_
  (try simp only [List.getElem_toArray, List.getElem_cons_zero, List.getElem_cons_succ, Act.put, List.setIfInBounds_toArray, List.set_cons_zero, List.set_cons_succ])
  refine wpAnyH_take (i := 6) (v := .int .i64 a.s) rfl (by kernel_rfl) (by kernel_rfl) (by kernel_rfl) (fun _ _ _ h => h) (yieldsIf_loadP (by rfl) _ rfl rfl (fun _ q => load_i64K ((HA.out.below q.below HA.out.lt).cell 2))) hH ?_
  (try simp only [List.getElem_toArray, List.getElem_cons_zero, List.getElem_cons_succ, Act.put, List.setIfInBounds_toArray, List.set_cons_zero, List.set_cons_succ])
  refine wpAnyH_take (i := 7) (v := .pointer (some ⟨(w.heap.size + 1), 2, none⟩)) rfl (by kernel_rfl) (by kernel_rfl) (by kernel_rfl) (fun _ _ _ h => h) (.inl ⟨by rfl, fun _ _ => by kernel_rfl⟩) hH ?_
  (try simp only [List.getElem_toArray, List.getElem_cons_zero, List.getElem_cons_succ, Act.put, List.setIfInBounds_toArray, List.set_cons_zero, List.set_cons_succ])
  refine wpAnyH_take (i := 8) (v := .int .i64 b.s) rfl (by kernel_rfl) (by kernel_rfl) (by kernel_rfl) (fun _ _ _ h => h) (yieldsIf_loadP (by rfl) _ rfl rfl (fun _ q => load_i64K ((HB.out.below q.below HB.out.lt).cell 2))) hH ?_
  (try simp only [List.getElem_toArray, List.getElem_cons_zero, List.getElem_cons_succ, Act.put, List.setIfInBounds_toArray, List.set_cons_zero, List.set_cons_succ])
  refine wpAnyH_call 4 54 #[hitV a, hitV b] _ (by kernel_rfl) (by rfl) (by kernel_rfl) (by kernel_rfl) (rank_order a b _) ?_
  rintro e Z1 ⟨rfl, g1⟩
  have h1 := Gw.trans hH g1
  refine ⟨_, rfl, h1, ?_⟩
  (try simp only [List.getElem_toArray, List.getElem_cons_zero, List.getElem_cons_succ, Act.put, List.setIfInBounds_toArray, List.set_cons_zero, List.set_cons_succ])
  refine wpAnyH_call 9 55 #[.int .i64 a.s, .int .i64 b.s] _ (by kernel_rfl) (by rfl) (by kernel_rfl) (by kernel_rfl) (cmp_int _ _ _) ?_
  rintro e Z2 ⟨rfl, rfl⟩
  have h2 := h1
  refine ⟨_, rfl, h2, ?_⟩
  (try simp only [List.getElem_toArray, List.getElem_cons_zero, List.getElem_cons_succ, Act.put, List.setIfInBounds_toArray, List.set_cons_zero, List.set_cons_succ])
  refine wpAnyH_makeK 10 (.slice (some ⟨Z1.heap.size, 0, none⟩) 2 2) (by kernel_rfl) (by rfl) (by kernel_rfl) (exec_ints2 (x := ordI a b) (y := cmpI a.s b.s) (by rfl) (by kernel_rfl) Z1) (Gw.alloc h2 _) ?_
  (try simp only [List.getElem_toArray, List.getElem_cons_zero, List.getElem_cons_succ, Act.put, List.setIfInBounds_toArray, List.set_cons_zero, List.set_cons_succ])
  have hs := Gw.alloc h2 (.cells #[.int .i64 (ordI a b), .int .i64 (cmpI a.s b.s)] 3)
  refine wpAnyH_call 11 53 #[.slice (some ⟨Z1.heap.size, 0, none⟩) 2 2] _ (by kernel_rfl) (by rfl) (by kernel_rfl) (by kernel_rfl) (cmp_orK _ _ (ordI a b) (cmpI a.s b.s) _ (ints2_newK Z1 3 (ordI a b) (cmpI a.s b.s))) ?_
  rintro e V ⟨rfl, rfl⟩
  rw [HZ.out]
  refine ⟨_, rfl, hs, ?_⟩
  (try simp only [List.getElem_toArray, List.getElem_cons_zero, List.getElem_cons_succ, Act.put, List.setIfInBounds_toArray, List.set_cons_zero, List.set_cons_succ])
  refine wpAnyH_take (i := 12) (v := .int .i64 z) rfl (by kernel_rfl) (by kernel_rfl) (by kernel_rfl) (fun _ _ _ h => h) (.inl ⟨by rfl, fun _ _ => by kernel_rfl⟩) hs ?_
  (try simp only [List.getElem_toArray, List.getElem_cons_zero, List.getElem_cons_succ, Act.put, List.setIfInBounds_toArray, List.set_cons_zero, List.set_cons_succ])
  refine wpAnyH_done (by kernel_rfl) ?_ _
  go_wp2_with fail
  go_ret
  exact ⟨rfl, HG.out.trans hs⟩
def ahB (a b : Sp) : Bool := decide (plI a b < 0)
set_option maxRecDepth 100000 in
theorem rank_spot (a b : Sp) (w : World) : Calls Try.prog 21 #[spV a, spV b] w fun e w' => e = .returned (.bool (ahB a b)) ∧ Gw w w' := by
  obtain ⟨w1, hw1⟩ : ∃ x, w.alloc (.cells #[.int .u64 a.d, .int .u64 a.id, .int .i64 a.s] 35) = x := ⟨_, rfl⟩
  obtain ⟨w2, hw2⟩ : ∃ x, w1.alloc (.cells #[.int .u64 b.d, .int .u64 b.id, .int .i64 b.s] 35) = x := ⟨_, rfl⟩
  have b2 : Below w1.heap.size w1 w2 := by rw [← hw2]; exact (Below.refl _ w1).alloc (Nat.le_refl _) _
  have e1 : w1.heap.size = w.heap.size + 1 := by rw [← hw1]; simp only [World.alloc, Array.size_push]
  have k1 : Blk w1 w.heap.size 35 #[.int .u64 a.d, .int .u64 a.id, .int .i64 a.s] := by rw [← hw1]; exact Blk.new _ _ _
  have k2 : Blk w2 (w.heap.size + 1) 35 #[.int .u64 b.d, .int .u64 b.id, .int .i64 b.s] := by rw [← hw2, ← e1]; exact Blk.new _ _ _
  have LA := sp_load (x := a) (k1.below b2 k1.lt)
  have LB := sp_load (x := b) k2
  have HG : Hid (Gw w w2) := by show Gw _ _; rw [← hw2, ← hw1]; exact Gw.alloc (Gw.alloc (Gw.refl w) _) _
  have HP := Lib.hid (rank_place a b w2)
  have HE := Lib.hid e1
  clear b2 k1 k2
  unfold spV at HP LA LB ⊢
  unfold ahB
  go_enter Try.func21, Try.ntmps21
  go_upto_region 1 with fail
  (try simp only [hw1])
  (try rw [HE.out])
  (try rw [hw2])
  clear hw1 hw2 e1
  go_wp2_with (first | refine wpList_loadE LA _ rfl rfl rfl ?_ | refine wpList_loadE LB _ rfl rfl rfl ?_ | (go_at_call 37; (with_reducible refine HP.out.mono ?_); rintro e V ⟨rfl, g1⟩; have H1 := Lib.hid g1; clear g1 LA LB))
  go_ret
  exact ⟨rfl, HG.out.trans H1.out⟩
end Go.Proofs.Ytpcbfoddlpgdjaa
