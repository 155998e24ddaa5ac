/- What workers are seen to do: knows, check. Printed by genRcE.py. -/
import Derived.Test.YtoodifpkconfcaaRcD
import Derived.Test.YtoodifpkconfcaaRkI
namespace Go.Proofs.Ytoodifpkconfcaa
open Go.RowKit Go.Maps Go.ChangeMaps Go.MapKept
def knC (c : List Int) (u x : Nat) (t : Int) : Bool := (x == u) || decide (t ≤ ig c x)
theorem noteTN : (Try.prog.info? 56).map (·.size) = some 2 := by kernel_rfl
def noC (x : Nat) (t : Int) : Array Value := #[.int .i64 (x : Int), .int .i64 t]
theorem load_i64R {w : World} {b o : Nat} {v : Int} (h : w.cell? ⟨b, o, none⟩ = some (.int .i64 v)) : (Instr.loadAt 3 (.pointer (some ⟨b, o, none⟩))).run Try.prog w = .ok (.int .i64 v) w := by
  simp [go_sem, h]
theorem yieldsIf_eqIR {ops : Array Oper} {S : World → Prop} {o : Oper} {a : Act} {t t' : TypeId} {p q : Int} {r : Bool} (hr : (p == q) = r) (hw : Region.wanted o (yielded ops a.tmps) = true) (x y : Operand) (ho : o.op = .binOp .eql t x y t') (hx : a.eval x = .int .i64 p) (hy : a.eval y = .int .i64 q) : YieldsIf Try.prog ops S o (.bool r) a := by
  refine .inl ⟨hw, fun w _ => ?_⟩
  unfold execOp
  simp only [ho, hx, hy]
  simp [go_sem, ← hr]
theorem yieldsIf_geqIR {ops : Array Oper} {S : World → Prop} {o : Oper} {a : Act} {t t' : TypeId} {p q : Int} {r : Bool} (hr : decide (p ≥ q) = r) (hw : Region.wanted o (yielded ops a.tmps) = true) (x y : Operand) (ho : o.op = .binOp .geq t x y t') (hx : a.eval x = .int .i64 p) (hy : a.eval y = .int .i64 q) : YieldsIf Try.prog ops S o (.bool r) a := by
  refine .inl ⟨hw, fun w _ => ?_⟩
  unfold execOp
  simp only [ho, hx, hy]
  simp [go_sem, ← hr]
theorem yieldsIf_indexB {ops : Array Oper} {S : World → Prop} {o : Oper} {a : Act} {xb f k : Nat} (hw : Region.wanted o (yielded ops a.tmps) = true) (x y : Operand) (ho : o.op = .indexAddr 45 x y) (hx : a.eval x = .pointer (some ⟨xb, f, none⟩)) (hy : a.eval y = .int .i64 ((k : Nat) : Int)) (hu : k < 65) : YieldsIf Try.prog ops S o (.pointer (some ⟨xb, f + k, none⟩)) a := by
  refine .inl ⟨hw, fun w _ => ?_⟩
  have h5 : ¬ (65 ≤ (k : Int)) := by omega
  unfold execOp
  simp only [ho, hx, hy]
  simp [go_sem, h5]
theorem RcS.at_ {w : World} {F : Nat → Prop} {xb sy da : Nat} {ck : Nat → List Int} {fs : Int → Option (List Int)} {nt : Int → Option NtR} {sl : Value} {m N : Nat} (S : RcS w F xb sy da ck fs nt sl m N) {u x : Nat} (hu : u < 65) (hx : x < 65) : w.cell? ⟨xb, u * 65 + x, none⟩ = some (.int .i64 (ig (ck u) x)) := by
  obtain ⟨C, h1, h2⟩ := S.x
  exact (h1.cell _).trans (h2.ck u hu x hx)
set_option maxRecDepth 100000 in
set_option maxHeartbeats 4000000 in
theorem rc_knows {w : World} {F : Nat → Prop} {xb sy da : Nat} {ck : Nat → List Int} {fs : Int → Option (List Int)} {nt : Int → Option NtR} {sl : Value} {m N : Nat} (S : RcS w F xb sy da ck fs nt sl m N) (u : Nat) (hu : u < 65) (x : Nat) (hx : x < 65) (t : Int) :
    Calls Try.prog 36 #[.pointer (some ⟨xb, 0, none⟩), .int .i64 ((u : Nat) : Int), .agg (noC x t)] w (fun e w' => e = .returned (.bool (knC (ck u) u x t)) ∧ Below w.heap.size w w') := by
  obtain ⟨w1, hw1⟩ : ∃ q, w.alloc (.cells (noC x t) 56) = q := ⟨_, rfl⟩
  have b1 : Below w.heap.size w w1 := by rw [← hw1]; exact bel_boxC _ _
  have k1 : Blk w1 w.heap.size 56 (noC x t) := by rw [← hw1]; exact Blk.new _ _ _
  have HS := Lib.hid (S.below b1)
  have HK := Lib.hid k1
  have HB := Lib.hid b1
  have HU := Lib.hid hu
  have HX := Lib.hid hx
  unfold noC at hw1 ⊢
  clear S k1 b1 hu hx
  go_enter Try.func36, Try.ntmps36
  go_upto_region 1 with fail
  (try rw [hw1])
  clear hw1
  refine wp_region_held_drew (S := fun W => Below w1.heap.size w1 W) (by kernel_rfl) (below_drewN (Below.refl _ w1) 1) (fun hH => ?_)
  refine wpAnyH_take (i := 0) (v := .pointer (some ⟨w.heap.size, 0, none⟩)) rfl (by kernel_rfl) (by kernel_rfl) (by kernel_rfl) (fun _ _ _ h => h) (.inl ⟨by rfl, fun _ _ => by kernel_rfl⟩) hH ?_
  (try simp only [List.getElem_toArray, List.getElem_cons_zero, Act.put, List.setIfInBounds_toArray, List.set_cons_zero, List.set_cons_succ])
  refine wpAnyH_take (i := 1) (v := .int .i64 ((x : Nat) : Int)) rfl (by kernel_rfl) (by kernel_rfl) (by kernel_rfl) (fun _ _ _ h => h) (yieldsIf_loadP (by rfl) _ rfl rfl (fun _ q => load_i64R ((HK.out.below q HK.out.lt).cell 0))) hH ?_
  (try simp only [List.getElem_toArray, List.getElem_cons_zero, List.getElem_cons_succ, Act.put, List.setIfInBounds_toArray, List.set_cons_zero, List.set_cons_succ])
  refine wpAnyH_take (i := 2) (v := .int .i64 ((u : Nat) : Int)) rfl (by kernel_rfl) (by kernel_rfl) (by kernel_rfl) (fun _ _ _ h => h) (.inl ⟨by rfl, fun _ _ => by kernel_rfl⟩) hH ?_
  (try simp only [List.getElem_toArray, List.getElem_cons_zero, List.getElem_cons_succ, Act.put, List.setIfInBounds_toArray, List.set_cons_zero, List.set_cons_succ])
  by_cases he : x = u
  · have e1 : (((x : Nat) : Int) == ((u : Nat) : Int)) = true := by simp [he]
    have e2 : knC (ck u) u x t = true := by unfold knC; simp [he]
    have HE2 := Lib.hid e2
    clear e2
    refine wpAnyH_take (i := 3) (v := .bool true) rfl (by kernel_rfl) (by kernel_rfl) (by kernel_rfl) (fun _ _ _ h => h) (yieldsIf_eqIR e1 (by rfl) _ _ rfl rfl rfl) hH ?_
    (try simp only [List.getElem_toArray, List.getElem_cons_zero, List.getElem_cons_succ, Act.put, List.setIfInBounds_toArray, List.set_cons_zero, List.set_cons_succ])
    refine wpAnyH_take (i := 4) (v := .bool true) rfl (by kernel_rfl) (by kernel_rfl) (by kernel_rfl) (fun _ _ _ h => h) (.inl ⟨by rfl, fun _ _ => by kernel_rfl⟩) hH ?_
    (try simp only [List.getElem_toArray, List.getElem_cons_zero, List.getElem_cons_succ, Act.put, List.setIfInBounds_toArray, List.set_cons_zero, List.set_cons_succ])
    refine wpAnyH_take (i := 5) (v := undef) rfl (by kernel_rfl) (by kernel_rfl) (by kernel_rfl) (fun _ _ _ h => h) (.inr ⟨by rfl, rfl⟩) hH ?_
    (try simp only [List.getElem_toArray, List.getElem_cons_zero, List.getElem_cons_succ, Act.put, List.setIfInBounds_toArray, List.set_cons_zero, List.set_cons_succ])
    refine wpAnyH_take (i := 6) (v := undef) rfl (by kernel_rfl) (by kernel_rfl) (by kernel_rfl) (fun _ _ _ h => h) (.inr ⟨by rfl, rfl⟩) hH ?_
    (try simp only [List.getElem_toArray, List.getElem_cons_zero, List.getElem_cons_succ, Act.put, List.setIfInBounds_toArray, List.set_cons_zero, List.set_cons_succ])
    refine wpAnyH_take (i := 7) (v := undef) rfl (by kernel_rfl) (by kernel_rfl) (by kernel_rfl) (fun _ _ _ h => h) (.inr ⟨by rfl, rfl⟩) hH ?_
    (try simp only [List.getElem_toArray, List.getElem_cons_zero, List.getElem_cons_succ, Act.put, List.setIfInBounds_toArray, List.set_cons_zero, List.set_cons_succ])
    refine wpAnyH_take (i := 8) (v := undef) rfl (by kernel_rfl) (by kernel_rfl) (by kernel_rfl) (fun _ _ _ h => h) (.inr ⟨by rfl, rfl⟩) hH ?_
    (try simp only [List.getElem_toArray, List.getElem_cons_zero, List.getElem_cons_succ, Act.put, List.setIfInBounds_toArray, List.set_cons_zero, List.set_cons_succ])
    refine wpAnyH_take (i := 9) (v := undef) rfl (by kernel_rfl) (by kernel_rfl) (by kernel_rfl) (fun _ _ _ h => h) (.inr ⟨by rfl, rfl⟩) hH ?_
    (try simp only [List.getElem_toArray, List.getElem_cons_zero, List.getElem_cons_succ, Act.put, List.setIfInBounds_toArray, List.set_cons_zero, List.set_cons_succ])
    refine wpAnyH_take (i := 10) (v := undef) rfl (by kernel_rfl) (by kernel_rfl) (by kernel_rfl) (fun _ _ _ h => h) (.inr ⟨by rfl, rfl⟩) hH ?_
    (try simp only [List.getElem_toArray, List.getElem_cons_zero, List.getElem_cons_succ, Act.put, List.setIfInBounds_toArray, List.set_cons_zero, List.set_cons_succ])
    refine wpAnyH_take (i := 11) (v := undef) rfl (by kernel_rfl) (by kernel_rfl) (by kernel_rfl) (fun _ _ _ h => h) (.inr ⟨by rfl, rfl⟩) hH ?_
    (try simp only [List.getElem_toArray, List.getElem_cons_zero, List.getElem_cons_succ, Act.put, List.setIfInBounds_toArray, List.set_cons_zero, List.set_cons_succ])
    refine wpAnyH_take (i := 12) (v := undef) rfl (by kernel_rfl) (by kernel_rfl) (by kernel_rfl) (fun _ _ _ h => h) (.inr ⟨by rfl, rfl⟩) hH ?_
    (try simp only [List.getElem_toArray, List.getElem_cons_zero, List.getElem_cons_succ, Act.put, List.setIfInBounds_toArray, List.set_cons_zero, List.set_cons_succ])
    refine wpAnyH_take (i := 13) (v := undef) rfl (by kernel_rfl) (by kernel_rfl) (by kernel_rfl) (fun _ _ _ h => h) (.inr ⟨by rfl, rfl⟩) hH ?_
    (try simp only [List.getElem_toArray, List.getElem_cons_zero, List.getElem_cons_succ, Act.put, List.setIfInBounds_toArray, List.set_cons_zero, List.set_cons_succ])
    refine wpAnyH_take (i := 14) (v := undef) rfl (by kernel_rfl) (by kernel_rfl) (by kernel_rfl) (fun _ _ _ h => h) (.inr ⟨by rfl, rfl⟩) hH ?_
    (try simp only [List.getElem_toArray, List.getElem_cons_zero, List.getElem_cons_succ, Act.put, List.setIfInBounds_toArray, List.set_cons_zero, List.set_cons_succ])
    refine wpAnyH_take (i := 15) (v := undef) rfl (by kernel_rfl) (by kernel_rfl) (by kernel_rfl) (fun _ _ _ h => h) (.inr ⟨by rfl, rfl⟩) hH ?_
    (try simp only [List.getElem_toArray, List.getElem_cons_zero, List.getElem_cons_succ, Act.put, List.setIfInBounds_toArray, List.set_cons_zero, List.set_cons_succ])
    refine wpAnyH_take (i := 16) (v := undef) rfl (by kernel_rfl) (by kernel_rfl) (by kernel_rfl) (fun _ _ _ h => h) (.inr ⟨by rfl, rfl⟩) hH ?_
    (try simp only [List.getElem_toArray, List.getElem_cons_zero, List.getElem_cons_succ, Act.put, List.setIfInBounds_toArray, List.set_cons_zero, List.set_cons_succ])
    refine wpAnyH_take (i := 17) (v := .bool true) rfl (by kernel_rfl) (by kernel_rfl) (by kernel_rfl) (fun _ _ _ h => h) (.inl ⟨by rfl, fun _ _ => by kernel_rfl⟩) hH ?_
    (try simp only [List.getElem_toArray, List.getElem_cons_zero, List.getElem_cons_succ, Act.put, List.setIfInBounds_toArray, List.set_cons_zero, List.set_cons_succ])
    refine wpAnyH_take (i := 18) (v := .bool true) rfl (by kernel_rfl) (by kernel_rfl) (by kernel_rfl) (fun _ _ _ h => h) (.inl ⟨by rfl, fun _ _ => by kernel_rfl⟩) hH ?_
    (try simp only [List.getElem_toArray, List.getElem_cons_zero, List.getElem_cons_succ, Act.put, List.setIfInBounds_toArray, List.set_cons_zero, List.set_cons_succ])
    refine wpAnyH_done (by kernel_rfl) ?_ _
    have HH := Lib.hid hH
    clear hH
    go_wp2_with fail
    go_ret
    exact ⟨by rw [HE2.out]; rfl, HB.out.trans (HH.out.mono HB.out.size)⟩
  · have e1 : (((x : Nat) : Int) == ((u : Nat) : Int)) = false := by simp; omega
    obtain ⟨e, hee⟩ : ∃ e, decide (ig (ck u) x ≥ t) = e := ⟨_, rfl⟩
    have e2 : knC (ck u) u x t = e := by unfold knC; rw [← hee]; simp [he]
    have HE2 := Lib.hid e2
    have HEE := Lib.hid hee
    clear e2 hee
    refine wpAnyH_take (i := 3) (v := .bool false) rfl (by kernel_rfl) (by kernel_rfl) (by kernel_rfl) (fun _ _ _ h => h) (yieldsIf_eqIR e1 (by rfl) _ _ rfl rfl rfl) hH ?_
    (try simp only [List.getElem_toArray, List.getElem_cons_zero, List.getElem_cons_succ, Act.put, List.setIfInBounds_toArray, List.set_cons_zero, List.set_cons_succ])
    refine wpAnyH_take (i := 4) (v := .bool false) rfl (by kernel_rfl) (by kernel_rfl) (by kernel_rfl) (fun _ _ _ h => h) (.inl ⟨by rfl, fun _ _ => by kernel_rfl⟩) hH ?_
    (try simp only [List.getElem_toArray, List.getElem_cons_zero, List.getElem_cons_succ, Act.put, List.setIfInBounds_toArray, List.set_cons_zero, List.set_cons_succ])
    refine wpAnyH_take (i := 5) (v := .pointer (some ⟨xb, 0, none⟩)) rfl (by kernel_rfl) (by kernel_rfl) (by kernel_rfl) (fun _ _ _ h => h) (.inl ⟨by rfl, fun _ _ => by kernel_rfl⟩) hH ?_
    (try simp only [List.getElem_toArray, List.getElem_cons_zero, List.getElem_cons_succ, Act.put, List.setIfInBounds_toArray, List.set_cons_zero, List.set_cons_succ])
    refine wpAnyH_take (i := 6) (v := .int .i64 ((u : Nat) : Int)) rfl (by kernel_rfl) (by kernel_rfl) (by kernel_rfl) (fun _ _ _ h => h) (.inl ⟨by rfl, fun _ _ => by kernel_rfl⟩) hH ?_
    (try simp only [List.getElem_toArray, List.getElem_cons_zero, List.getElem_cons_succ, Act.put, List.setIfInBounds_toArray, List.set_cons_zero, List.set_cons_succ])
    refine wpAnyH_take (i := 7) (v := .pointer (some ⟨w.heap.size, 0, none⟩)) rfl (by kernel_rfl) (by kernel_rfl) (by kernel_rfl) (fun _ _ _ h => h) (.inl ⟨by rfl, fun _ _ => by kernel_rfl⟩) hH ?_
    (try simp only [List.getElem_toArray, List.getElem_cons_zero, List.getElem_cons_succ, Act.put, List.setIfInBounds_toArray, List.set_cons_zero, List.set_cons_succ])
    refine wpAnyH_take (i := 8) (v := .int .i64 ((x : Nat) : Int)) rfl (by kernel_rfl) (by kernel_rfl) (by kernel_rfl) (fun _ _ _ h => h) (yieldsIf_loadP (by rfl) _ rfl rfl (fun _ q => load_i64R ((HK.out.below q HK.out.lt).cell 0))) hH ?_
    (try simp only [List.getElem_toArray, List.getElem_cons_zero, List.getElem_cons_succ, Act.put, List.setIfInBounds_toArray, List.set_cons_zero, List.set_cons_succ])
    refine wpAnyH_take (i := 9) (v := .pointer (some ⟨xb, 0, none⟩)) rfl (by kernel_rfl) (by kernel_rfl) (by kernel_rfl) (fun _ _ _ h => h) (.inl ⟨by rfl, fun _ _ => by kernel_rfl⟩) hH ?_
    (try simp only [List.getElem_toArray, List.getElem_cons_zero, List.getElem_cons_succ, Act.put, List.setIfInBounds_toArray, List.set_cons_zero, List.set_cons_succ])
    refine wpAnyH_take (i := 10) (v := .pointer (some ⟨xb, 0, none⟩)) rfl (by kernel_rfl) (by kernel_rfl) (by kernel_rfl) (fun _ _ _ h => h) (.inl ⟨by rfl, fun _ _ => by kernel_rfl⟩) hH ?_
    (try simp only [List.getElem_toArray, List.getElem_cons_zero, List.getElem_cons_succ, Act.put, List.setIfInBounds_toArray, List.set_cons_zero, List.set_cons_succ])
    refine wpAnyH_take (i := 11) (v := .pointer (some ⟨xb, u * 65, none⟩)) rfl (by kernel_rfl) (by kernel_rfl) (by kernel_rfl) (fun _ _ _ h => h) (yieldsIf_indexA (by rfl) _ _ rfl rfl rfl HU.out) hH ?_
    (try simp only [List.getElem_toArray, List.getElem_cons_zero, List.getElem_cons_succ, Act.put, List.setIfInBounds_toArray, List.set_cons_zero, List.set_cons_succ])
    refine wpAnyH_take (i := 12) (v := .pointer (some ⟨xb, u * 65 + x, none⟩)) rfl (by kernel_rfl) (by kernel_rfl) (by kernel_rfl) (fun _ _ _ h => h) (yieldsIf_indexB (by rfl) _ _ rfl rfl rfl HX.out) hH ?_
    (try simp only [List.getElem_toArray, List.getElem_cons_zero, List.getElem_cons_succ, Act.put, List.setIfInBounds_toArray, List.set_cons_zero, List.set_cons_succ])
    refine wpAnyH_take (i := 13) (v := .int .i64 (ig (ck u) x)) rfl (by kernel_rfl) (by kernel_rfl) (by kernel_rfl) (fun _ _ _ h => h) (yieldsIf_loadP (by rfl) _ rfl rfl (fun _ q => load_i64R ((HS.out.below q).at_ HU.out HX.out))) hH ?_
    (try simp only [List.getElem_toArray, List.getElem_cons_zero, List.getElem_cons_succ, Act.put, List.setIfInBounds_toArray, List.set_cons_zero, List.set_cons_succ])
    refine wpAnyH_take (i := 14) (v := .pointer (some ⟨w.heap.size, 1, none⟩)) rfl (by kernel_rfl) (by kernel_rfl) (by kernel_rfl) (fun _ _ _ h => h) (.inl ⟨by rfl, fun _ _ => by kernel_rfl⟩) hH ?_
    (try simp only [List.getElem_toArray, List.getElem_cons_zero, List.getElem_cons_succ, Act.put, List.setIfInBounds_toArray, List.set_cons_zero, List.set_cons_succ])
    refine wpAnyH_take (i := 15) (v := .int .i64 t) rfl (by kernel_rfl) (by kernel_rfl) (by kernel_rfl) (fun _ _ _ h => h) (yieldsIf_loadP (by rfl) _ rfl rfl (fun _ q => load_i64R ((HK.out.below q HK.out.lt).cell 1))) hH ?_
    (try simp only [List.getElem_toArray, List.getElem_cons_zero, List.getElem_cons_succ, Act.put, List.setIfInBounds_toArray, List.set_cons_zero, List.set_cons_succ])
    refine wpAnyH_take (i := 16) (v := .bool e) rfl (by kernel_rfl) (by kernel_rfl) (by kernel_rfl) (fun _ _ _ h => h) (yieldsIf_geqIR HEE.out (by rfl) _ _ rfl rfl rfl) hH ?_
    (try simp only [List.getElem_toArray, List.getElem_cons_zero, List.getElem_cons_succ, Act.put, List.setIfInBounds_toArray, List.set_cons_zero, List.set_cons_succ])
    refine wpAnyH_take (i := 17) (v := .bool e) rfl (by kernel_rfl) (by kernel_rfl) (by kernel_rfl) (fun _ _ _ h => h) (.inl ⟨by rfl, fun _ _ => by kernel_rfl⟩) hH ?_
    (try simp only [List.getElem_toArray, List.getElem_cons_zero, List.getElem_cons_succ, Act.put, List.setIfInBounds_toArray, List.set_cons_zero, List.set_cons_succ])
    refine wpAnyH_take (i := 18) (v := .bool e) rfl (by kernel_rfl) (by kernel_rfl) (by kernel_rfl) (fun _ _ _ h => h) (.inl ⟨by rfl, fun _ _ => by kernel_rfl⟩) hH ?_
    (try simp only [List.getElem_toArray, List.getElem_cons_zero, List.getElem_cons_succ, Act.put, List.setIfInBounds_toArray, List.set_cons_zero, List.set_cons_succ])
    refine wpAnyH_done (by kernel_rfl) ?_ _
    have HH := Lib.hid hH
    clear hH
    go_wp2_with fail
    go_ret
    exact ⟨by rw [HE2.out]; rfl, HB.out.trans (HH.out.mono HB.out.size)⟩
def acC (u : Nat) (p : Int) (b : Bool) : Array Value := #[.int .i64 (u : Int), .int .i64 p, .bool b]
def caC (x u : Nat) (p : Int) (wrote b : Bool) : Array Value := #[.int .i64 (x : Int), .int .i64 p, .bool wrote, .int .i64 (u : Int), .int .i64 p, .bool b]
theorem accTN : (Try.prog.info? 62).map (·.size) = some 3 := by kernel_rfl
theorem info_clash : (Try.prog.info? 69).map (fun i => (i.zero, i.size, i.bytes)) = some (some (.agg #[.int .i64 0, .int .i64 0, .bool false, .int .i64 0, .int .i64 0, .bool false]), 6, 48) := by kernel_rfl
theorem run_clash (w : World) (x u : Nat) (p : Int) (wrote b : Bool) : (Instr.buildSlice 32 1 #[(0, .agg (caC x u p wrote b))]).run Try.prog w = .ok (.slice (some ⟨w.heap.size, 0, none⟩) 1 1) (w.alloc (.cells (caC x u p wrote b) 69)) := by
  obtain ⟨i, hi, hz, hz1, hz2⟩ := info_parts info_clash
  refine Go.run_buildSlice w _ _ 1 _ _ i _ Try.underlying32 hi hz (by rw [hz1]; decide) (by rw [hz1]; decide) ?_
  rw [hz1]; kernel_rfl
theorem exec_clash {o : Oper} {ρ : Operand → Value} {y : Operand} {x u : Nat} {p : Int} {wrote b : Bool} {w : World} (ho : o.op = .buildSlice 32 1 #[(0, y)]) (hx : ρ y = .agg (caC x u p wrote b)) : (execOp ρ o).run Try.prog w = .ok (.value (.slice (some ⟨w.heap.size, 0, none⟩) 1 1)) (w.alloc (.cells (caC x u p wrote b) 69)) := by
  unfold execOp
  simp only [ho]
  rw [show (#[(0, y)] : Array (Nat × Operand)).map (fun p => (p.1, ρ p.2)) = #[(0, Value.agg (caC x u p wrote b))] by simp [hx]]
  simp only [Sem.run_bind, run_clash, Result.andThen_ok]
  rfl
theorem RcS.slv {w : World} {F : Nat → Prop} {xb sy da : Nat} {ck : Nat → List Int} {fs : Int → Option (List Int)} {nt : Int → Option NtR} {sl : Value} {m N : Nat} (S : RcS w F xb sy da ck fs nt sl m N) : ∃ A c, sl = .slice A m c := by
  obtain ⟨xs, h, _⟩ := S.c
  rcases h.2 with ⟨e, h0⟩ | ⟨g, cap, cur, e, _⟩
  · exact ⟨none, 0, by rw [e, h0]⟩
  · exact ⟨_, _, e⟩
theorem load_clashes {w : World} {b o : Nat} {A : Option Addr} {n c : Nat} (h : w.cell? ⟨b, o, none⟩ = some (.slice A n c)) : (Instr.loadAt 32 (.pointer (some ⟨b, o, none⟩))).run Try.prog w = .ok (.slice A n c) w := by
  simp [go_sem, h]
/-- A clash more. -/
theorem RcS.push {w W : World} {F : Nat → Prop} {xb sy da : Nat} {ck : Nat → List Int} {fs : Int → Option (List Int)} {nt : Int → Option NtR} {sl : Value} {m N g c' : Nat} {xs : List Value} (S : RcS w F xb sy da ck fs nt sl m N) (hg : w.grownBy W sl.ownBlock) (hat : sl.ownBlock = some g ∨ w.heap.size ≤ g) (ho : W.ownsRow 0 69 6 (.slice (some ⟨g, 0, none⟩) (m + 1) c') (m + 1) xs) (h1c : ∀ u ∈ xs, u.oneCell' = true) :
    (∃ v, W.cell? ⟨xb, 4227, none⟩ = some v) ∧ W.frozen? ⟨xb, 4227, none⟩ = false ∧ RcS (W.setCell ⟨xb, 4227, none⟩ (.slice (some ⟨g, 0, none⟩) (m + 1) c')) (fun k => F k ∨ k = g) xb sy da ck fs nt (.slice (some ⟨g, 0, none⟩) (m + 1) c') (m + 1) N ∧ Tch F w (W.setCell ⟨xb, 4227, none⟩ (.slice (some ⟨g, 0, none⟩) (m + 1) c')) := by
  have hT := grownBy_tch hg
  have hgW : g < W.heap.size := (ho.lt g rfl).2
  have hk : ∀ x, F x → sl.ownBlock ≠ some x → W.heap[x]? = w.heap[x]? := fun x hx hne => hT.block x (S.ltF x hx) (fun e => hne e.symm)
  have hng : ∀ x, F x → sl.ownBlock ≠ some x → x ≠ g := fun x hx hne e => by
    rcases hat with h | h
    · exact hne (by rw [h, e])
    · have := S.ltF x hx; omega
  have hcx : sl.ownBlock ≠ some xb := fun e => (S.apc _ e).1 rfl
  have hcs : sl.ownBlock ≠ some sy := fun e => (S.apc _ e).2.1 rfl
  have hcd : sl.ownBlock ≠ some da := fun e => (S.apc _ e).2.2.1 rfl
  have hcn : ∀ k r, nt k = some r → sl.ownBlock ≠ some r.b ∧ sl.ownBlock ≠ some r.rb := fun k r hr => ⟨fun e => ((S.apc _ e).2.2.2 k r hr).1 rfl, fun e => ((S.apc _ e).2.2.2 k r hr).2 rfl⟩
  obtain ⟨C, h1, h2⟩ := S.x
  have k1 : Blk W xb 48 C := (hk _ S.inF.1 hcx).trans h1
  have hT2 : Tch (fun x => x = xb) W (W.setCell ⟨xb, 4227, none⟩ (.slice (some ⟨g, 0, none⟩) (m + 1) c')) := Tch.setCell (S := fun x => x = xb) (Tch.refl _ W) rfl _ _
  have hk2 : ∀ x, F x → sl.ownBlock ≠ some x → x ≠ xb → (W.setCell ⟨xb, 4227, none⟩ (.slice (some ⟨g, 0, none⟩) (m + 1) c')).heap[x]? = w.heap[x]? := fun x hx h1 h2 => (hT2.block x (Nat.lt_of_lt_of_le (S.ltF x hx) hT.size) h2).trans (hk x hx h1)
  refine ⟨⟨_, (k1.cell 4227).trans (Array.getElem?_eq_getElem (by rw [h2.sz]; decide))⟩, k1.frozen _, ⟨⟨_, k1.set_ 4227 _, by rw [Array.size_setIfInBounds]; exact h2.sz, fun u hu i hi => ?_, ?_, ?_, ?_⟩, ?_, ?_, fun k r hr => ?_, ?_, S.ckl, S.fsl, ⟨.inl S.inF.1, .inl S.inF.2.1, .inl S.inF.2.2.1, fun k r hr => ⟨.inl (S.inF.2.2.2.1 k r hr).1, .inl (S.inF.2.2.2.1 k r hr).2⟩, fun g' e => .inr (by injection e with e; exact e.symm)⟩, fun x hx => ?_, S.ap, S.apn, S.apm, fun g' e => ?_, S.nb⟩, ?_⟩
  · rw [Array.getElem?_setIfInBounds_ne (by omega)]; exact h2.ck u hu i hi
  · rw [Array.getElem?_setIfInBounds_ne (by decide)]; exact h2.sy
  · rw [Array.getElem?_setIfInBounds_ne (by decide)]; exact h2.da
  · exact Array.getElem?_setIfInBounds_self_of_lt (by rw [h2.sz]; decide)
  · obtain ⟨D, q1, q2⟩ := S.s; exact ⟨D, ownsMap_atR q1 (hk2 _ S.inF.2.1 hcs S.ap.1.symm), q2⟩
  · obtain ⟨D, q1, q2⟩ := S.d; exact ⟨D, ownsMap_atR q1 (hk2 _ S.inF.2.2.1 hcd S.ap.2.1.symm), q2⟩
  · obtain ⟨q1, D, q2, q3⟩ := S.n k r hr
    have := S.apn k r hr
    exact ⟨(hk2 _ (S.inF.2.2.2.1 k r hr).1 (hcn k r hr).1 this.2.1).trans q1, D, ownsMap_atR q2 (hk2 _ (S.inF.2.2.2.1 k r hr).2 (hcn k r hr).2 this.2.2.2.2.1), q3⟩
  · exact ⟨xs, ownsRow_atR ho (fun g' e => hT2.block g' (by injection e with e; rw [← e]; exact hgW) (fun e2 => by injection e with e; exact hng xb S.inF.1 hcx (by rw [← e2, ← e]))), h1c⟩
  · rcases hx with hx | rfl
    · exact Nat.lt_of_lt_of_le (S.ltF x hx) (Nat.le_trans hT.size hT2.size)
    · exact Nat.lt_of_lt_of_le hgW hT2.size
  · injection e with e
    subst e
    exact ⟨(hng xb S.inF.1 hcx).symm, (hng sy S.inF.2.1 hcs).symm, (hng da S.inF.2.2.1 hcd).symm, fun k r hr => ⟨(hng _ (S.inF.2.2.2.1 k r hr).1 (hcn k r hr).1).symm, (hng _ (S.inF.2.2.2.1 k r hr).2 (hcn k r hr).2).symm⟩⟩
  · exact (hT.mono (S' := F) (fun k _ e => S.inF.2.2.2.2 k e.symm)).trans (hT2.mono (S' := F) (fun k _ e => by rw [e]; exact S.inF.1)) (fun _ h => .inl h)
set_option maxRecDepth 100000 in
set_option maxHeartbeats 4000000 in
theorem rc_check {w : World} {F : Nat → Prop} {xb sy da : Nat} {ck : Nat → List Int} {fs : Int → Option (List Int)} {nt : Int → Option NtR} {sl : Value} {m N : Nat} (S : RcS w F xb sy da ck fs nt sl m N) (u : Nat) (hu : u < 65) (x : Nat) (hx : x < 65) (t : Int) (wrote : Bool) (p : Int) (b : Bool) (hm : m ≤ 1048576) :
    Calls Try.prog 27 #[.pointer (some ⟨xb, 0, none⟩), .agg (noC x t), .bool wrote, .agg (acC u p b)] w (fun e w' => ∃ F' sl', e = .returned (.bool (knC (ck u) u x t)) ∧ RcS w' F' xb sy da ck fs nt sl' (if knC (ck u) u x t = true then m else m + 1) N ∧ Tch F w w' ∧ (∀ x, F' x → F x ∨ w.heap.size ≤ x)) := by
  obtain ⟨w1, hw1⟩ : ∃ q, w.alloc (.cells (noC x t) 56) = q := ⟨_, rfl⟩
  obtain ⟨w2, hw2⟩ : ∃ q, w1.alloc (.cells (acC u p b) 62) = q := ⟨_, rfl⟩
  have b1 : Below w.heap.size w w1 := by rw [← hw1]; exact bel_boxC _ _
  have b2 : Below w1.heap.size w1 w2 := by rw [← hw2]; exact bel_boxC _ _
  have e1 : w1.heap.size = w.heap.size + 1 := by rw [← hw1]; simp only [World.alloc, Array.size_push]
  have k1 : Blk w1 w.heap.size 56 (noC x t) := by rw [← hw1]; exact Blk.new _ _ _
  have k2 : Blk w2 w1.heap.size 62 (acC u p b) := by rw [← hw2]; exact Blk.new _ _ _
  have k1 := k1.below b2 k1.lt
  have h12 := b1.trans (b2.mono b1.size)
  have S2 := S.below h12
  have HS := Lib.hid S2
  have HK1 := Lib.hid k1
  have HK2 := Lib.hid k2
  have HB := Lib.hid h12
  have HU := Lib.hid hu
  have HX := Lib.hid hx
  have HM := Lib.hid hm
  have L1 : (Instr.loadAt 56 (.pointer (some ⟨w.heap.size, 0, none⟩))).run Try.prog w2 = .ok (.agg (noC x t)) w2 := row_load k1 Try.underlying56 rfl noteTN
  have cu : w2.cell? ⟨w1.heap.size, 0, none⟩ = some (.int .i64 (u : Int)) := k2.cell 0
  obtain ⟨kn, hkn⟩ : ∃ q, knC (ck u) u x t = q := ⟨_, rfl⟩
  have hK := rc_knows S2 u hu x hx t
  rw [hkn] at hK ⊢
  have HKN := Lib.hid hK
  have HE1 := Lib.hid e1
  have HEX : Hid (∀ y, F y → y ≠ w.heap.size ∧ y ≠ w1.heap.size) := fun y hy => by have := S.ltF y hy; omega
  have HW1 := Lib.hid hw1
  have HW2 := Lib.hid hw2
  unfold noC at L1 hw1 HKN
  unfold acC at hw2
  clear S S2 k1 k2 b1 b2 e1 h12 hu hx hm hkn hK
  unfold noC acC
  go_enter Try.func27, Try.ntmps27
  go_upto_region 1 with fail
  (try simp only [hw1, hw2])
  clear hw1 hw2
  go_upto_if 13 with (first
    | refine wpList_loadE L1 _ rfl rfl rfl ?_
    | (go_at_call 36; (with_reducible refine HKN.out.mono ?_); rintro e w3 ⟨rfl, hb3⟩; have HB3 := Lib.hid hb3; clear hb3))
  have HS3 := Lib.hid (HS.out.below HB3.out)
  have HB13 := Lib.hid (HB.out.trans (HB3.out.mono HB.out.size))
  clear L1 cu HKN
  cases kn
  case true =>
    go_wp2_with fail
    go_ret
    exact ⟨rfl, F, ⟨sl, HS3.out⟩, Tch.of_below HB13.out, fun _ h => .inl h⟩
  case false =>
    obtain ⟨A, c, hsl⟩ := HS3.out.slv
    subst hsl
    have HKA := Lib.hid (HK1.out.below HB3.out HK1.out.lt)
    have HKB := Lib.hid (HK2.out.below HB3.out HK2.out.lt)
    go_upto_region 3 with fail
    refine wp_region_held_drew (S := fun W => Blk W w.heap.size 56 (noC x t) ∧ Blk W w1.heap.size 62 (acC u p b)) (by kernel_rfl) ⟨HKA.out, HKB.out⟩ (fun hH => ?_)
    have HS4 := Lib.hid (HS3.out.below (below_drewN (Below.refl _ w3) 1))
    obtain ⟨w4, hw4⟩ : ∃ q, w3.drew = q := ⟨_, rfl⟩
    have HB34 : Hid (Below w3.heap.size w3 w4) := by show Below _ _ _; rw [← hw4]; exact below_drewN (Below.refl _ w3) 1
    have HS4 : Hid (RcS w4 F xb sy da ck fs nt (.slice A m c) m N) := by show RcS _ _ _ _ _ _ _ _ _ _ _; rw [← hw4]; exact HS4.out
    rw [hw4] at hH ⊢
    clear hw4
    refine wpAnyH_take (i := 0) (v := .pointer (some ⟨xb, 0, none⟩)) rfl (by kernel_rfl) (by kernel_rfl) (by kernel_rfl) (fun _ _ _ h => h) (.inl ⟨by rfl, fun _ _ => by kernel_rfl⟩) hH ?_
    (try simp only [List.getElem_toArray, List.getElem_cons_zero, Act.put, List.setIfInBounds_toArray, List.set_cons_zero, List.set_cons_succ])
    refine wpAnyH_take (i := 1) (v := .pointer (some ⟨xb, 0, none⟩)) rfl (by kernel_rfl) (by kernel_rfl) (by kernel_rfl) (fun _ _ _ h => h) (.inl ⟨by rfl, fun _ _ => by kernel_rfl⟩) hH ?_
    (try simp only [List.getElem_toArray, List.getElem_cons_zero, List.getElem_cons_succ, Act.put, List.setIfInBounds_toArray, List.set_cons_zero, List.set_cons_succ])
    refine wpAnyH_take (i := 2) (v := .pointer (some ⟨xb, 0, none⟩)) rfl (by kernel_rfl) (by kernel_rfl) (by kernel_rfl) (fun _ _ _ h => h) (.inl ⟨by rfl, fun _ _ => by kernel_rfl⟩) hH ?_
    (try simp only [List.getElem_toArray, List.getElem_cons_zero, List.getElem_cons_succ, Act.put, List.setIfInBounds_toArray, List.set_cons_zero, List.set_cons_succ])
    refine wpAnyH_take (i := 3) (v := .pointer (some ⟨xb, 4227, none⟩)) rfl (by kernel_rfl) (by kernel_rfl) (by kernel_rfl) (fun _ _ _ h => h) (.inl ⟨by rfl, fun _ _ => by kernel_rfl⟩) hH ?_
    (try simp only [List.getElem_toArray, List.getElem_cons_zero, List.getElem_cons_succ, Act.put, List.setIfInBounds_toArray, List.set_cons_zero, List.set_cons_succ])
    refine wpAnyH_take (i := 5) (v := .pointer (some ⟨w.heap.size, 0, none⟩)) rfl (by kernel_rfl) (by kernel_rfl) (by kernel_rfl) (fun _ _ _ h => h) (.inl ⟨by rfl, fun _ _ => by kernel_rfl⟩) hH ?_
    (try simp only [List.getElem_toArray, List.getElem_cons_zero, List.getElem_cons_succ, Act.put, List.setIfInBounds_toArray, List.set_cons_zero, List.set_cons_succ])
    refine wpAnyH_take (i := 6) (v := .int .i64 ((x : Nat) : Int)) rfl (by kernel_rfl) (by kernel_rfl) (by kernel_rfl) (fun _ _ _ h => h) (yieldsIf_loadP (by rfl) _ rfl rfl (fun _ q => load_i64R (q.1.cell 0))) hH ?_
    (try simp only [List.getElem_toArray, List.getElem_cons_zero, List.getElem_cons_succ, Act.put, List.setIfInBounds_toArray, List.set_cons_zero, List.set_cons_succ])
    refine wpAnyH_take (i := 7) (v := .pointer (some ⟨w1.heap.size, 1, none⟩)) rfl (by kernel_rfl) (by kernel_rfl) (by kernel_rfl) (fun _ _ _ h => h) (.inl ⟨by rfl, fun _ _ => by kernel_rfl⟩) hH ?_
    (try simp only [List.getElem_toArray, List.getElem_cons_zero, List.getElem_cons_succ, Act.put, List.setIfInBounds_toArray, List.set_cons_zero, List.set_cons_succ])
    refine wpAnyH_take (i := 8) (v := .int .i64 p) rfl (by kernel_rfl) (by kernel_rfl) (by kernel_rfl) (fun _ _ _ h => h) (yieldsIf_loadP (by rfl) _ rfl rfl (fun _ q => load_i64R (q.2.cell 1))) hH ?_
    (try simp only [List.getElem_toArray, List.getElem_cons_zero, List.getElem_cons_succ, Act.put, List.setIfInBounds_toArray, List.set_cons_zero, List.set_cons_succ])
    refine wpAnyH_take (i := 9) (v := .bool wrote) rfl (by kernel_rfl) (by kernel_rfl) (by kernel_rfl) (fun _ _ _ h => h) (.inl ⟨by rfl, fun _ _ => by kernel_rfl⟩) hH ?_
    (try simp only [List.getElem_toArray, List.getElem_cons_zero, List.getElem_cons_succ, Act.put, List.setIfInBounds_toArray, List.set_cons_zero, List.set_cons_succ])
    refine wpAnyH_take (i := 10) (v := .agg (acC x p wrote)) rfl (by kernel_rfl) (by kernel_rfl) (by kernel_rfl) (fun _ _ _ h => h) (.inl ⟨by rfl, fun _ _ => by kernel_rfl⟩) hH ?_
    (try simp only [List.getElem_toArray, List.getElem_cons_zero, List.getElem_cons_succ, Act.put, List.setIfInBounds_toArray, List.set_cons_zero, List.set_cons_succ])
    refine wpAnyH_take (i := 11) (v := .agg (acC u p b)) rfl (by kernel_rfl) (by kernel_rfl) (by kernel_rfl) (fun _ _ _ h => h) (yieldsIf_loadP (by rfl) _ rfl rfl (fun _ q => row_load q.2 Try.underlying62 rfl accTN)) hH ?_
    (try simp only [List.getElem_toArray, List.getElem_cons_zero, List.getElem_cons_succ, Act.put, List.setIfInBounds_toArray, List.set_cons_zero, List.set_cons_succ])
    refine wpAnyH_take (i := 12) (v := .agg (caC x u p wrote b)) rfl (by kernel_rfl) (by kernel_rfl) (by kernel_rfl) (fun _ _ _ h => h) (.inl ⟨by rfl, fun _ _ => by kernel_rfl⟩) hH ?_
    (try simp only [List.getElem_toArray, List.getElem_cons_zero, List.getElem_cons_succ, Act.put, List.setIfInBounds_toArray, List.set_cons_zero, List.set_cons_succ])
    obtain ⟨xs0, hxs, hx1⟩ := HS4.out.c
    have hx2 : ∀ v ∈ xs0 ++ (caC x u p wrote b).toList, v.oneCell' = true := fun v hv => by
      rcases List.mem_append.1 hv with h | h
      · exact hx1 v h
      · simp [caC] at h
        rcases h with rfl | rfl | rfl | rfl | rfl | rfl <;> rfl
    have hA1 : Blk (w4.alloc (.cells (caC x u p wrote b) 69)) w.heap.size 56 (noC x t) ∧ Blk (w4.alloc (.cells (caC x u p wrote b) 69)) w1.heap.size 62 (acC u p b) := ⟨hH.1.alloc _, hH.2.alloc _⟩
    refine wpAnyH_all (rs := [4, 13]) (by kernel_rfl) (by simp) (fun i hi => ?_)
    rcases (by simpa using hi : i = 4 ∨ i = 13) with rfl | rfl
    · refine wpOp_value (w' := w4) (.slice A m c) (by rfl) (by kernel_rfl) (exec_loadR (by rfl) (by rfl) (load_clashes HS4.out.slc)) ⟨hH, ?_⟩
      (try simp only [List.getElem_toArray, List.getElem_cons_zero, List.getElem_cons_succ, Act.put, List.setIfInBounds_toArray, List.set_cons_zero, List.set_cons_succ])
      refine wpAnyH_makeK 13 (.slice (some ⟨w4.heap.size, 0, none⟩) 1 1) (by kernel_rfl) (by rfl) (by kernel_rfl) (exec_clash (by rfl) (by rfl)) hA1 ?_
      (try simp only [List.getElem_toArray, List.getElem_cons_zero, List.getElem_cons_succ, Act.put, List.setIfInBounds_toArray, List.set_cons_zero, List.set_cons_succ])
      refine wpAnyH_push1 14 (by kernel_rfl) (by rfl) _ _ 32 69 6 48 _ rfl Try.underlying32 info_clash rfl (by decide) w4 0 (.slice A m c) m xs0 (caC x u p wrote b) rfl (by kernel_rfl) rfl hxs rfl rfl (by simp [caC, Value.oneCell']) (by have := HM.out; omega) (by decide) (Nat.zero_le _) ?_
      intro g c' W5 ho hgr hb5 hat
      obtain ⟨⟨v0, hc0⟩, hf0, hS5, hT5⟩ := HS4.out.push hgr hat ho hx2
      have hH5 : Blk W5 w.heap.size 56 (noC x t) ∧ Blk W5 w1.heap.size 62 (acC u p b) := ⟨hH.1.grown hgr (fun e => (HEX.out _ (HS4.out.inF.2.2.2.2 _ e.symm)).1 rfl), hH.2.grown hgr (fun e => (HEX.out _ (HS4.out.inF.2.2.2.2 _ e.symm)).2 rfl)⟩
      refine ⟨hH5, ?_⟩
      (try simp only [List.getElem_toArray, List.getElem_cons_zero, List.getElem_cons_succ, Act.put, List.setIfInBounds_toArray, List.set_cons_zero, List.set_cons_succ])
      refine wpAnyH_take (i := 15) (v := .pointer (some ⟨xb, 0, none⟩)) rfl (by kernel_rfl) (by kernel_rfl) (by kernel_rfl) (fun _ _ _ h => h) (.inl ⟨by rfl, fun _ _ => by kernel_rfl⟩) hH5 ?_
      (try simp only [List.getElem_toArray, List.getElem_cons_zero, List.getElem_cons_succ, Act.put, List.setIfInBounds_toArray, List.set_cons_zero, List.set_cons_succ])
      refine wpAnyH_take (i := 16) (v := .pointer (some ⟨xb, 4227, none⟩)) rfl (by kernel_rfl) (by kernel_rfl) (by kernel_rfl) (fun _ _ _ h => h) (.inl ⟨by rfl, fun _ _ => by kernel_rfl⟩) hH5 ?_
      (try simp only [List.getElem_toArray, List.getElem_cons_zero, List.getElem_cons_succ, Act.put, List.setIfInBounds_toArray, List.set_cons_zero, List.set_cons_succ])
      obtain ⟨V, hV⟩ : ∃ V, W5.setCell ⟨xb, 4227, none⟩ (.slice (some ⟨g, 0, none⟩) (m + 1) c') = V := ⟨_, rfl⟩
      have SR : (Instr.storeAt 32 (.pointer (some ⟨xb, 4227, none⟩)) (.slice (some ⟨g, 0, none⟩) (m + 1) c')).run Try.prog W5 = .ok () V := by rw [← hV]; simp [go_sem, hc0, hf0]
      rw [hV] at hS5 hT5
      have hHV : Blk V w.heap.size 56 (noC x t) ∧ Blk V w1.heap.size 62 (acC u p b) := by
        rw [← hV]
        exact ⟨hH5.1.far (fun e => (HEX.out _ HS4.out.inF.1).1 e.symm) _, hH5.2.far (fun e => (HEX.out _ HS4.out.inF.1).2 e.symm) _⟩
      have HS5 := Lib.hid hS5
      have HT5 := Lib.hid hT5
      have HAT := Lib.hid hat
      clear hS5 hT5 hV hc0 hf0 ho hgr hb5
      refine wpAnyH_store 17 _ _ _ (by kernel_rfl) (by rfl) (by kernel_rfl) (by rfl) (by rfl) (by rfl) SR hHV ?_
      (try simp only [List.getElem_toArray, List.getElem_cons_zero, List.getElem_cons_succ, Act.put])
      refine wpAnyH_done (by kernel_rfl) ?_ _
      clear SR hHV hH5 hH hat
      go_wp2_with fail
      go_ret
      exact ⟨rfl, _, ⟨_, HS5.out⟩, (Tch.of_below (S := F) (HB13.out.trans (HB34.out.mono HB13.out.size))).trans HT5.out (fun _ h => .inl h), fun y hy => by
        rcases hy with hy | rfl
        · exact .inl hy
        · rcases HAT.out with h | h
          · exact .inl (HS4.out.inF.2.2.2.2 _ h)
          · exact .inr (Nat.le_trans (HB13.out.trans (HB34.out.mono HB13.out.size)).size h)⟩
    · refine wpOp_value (w' := w4.alloc (.cells (caC x u p wrote b) 69)) (.slice (some ⟨w4.heap.size, 0, none⟩) 1 1) (by rfl) (by kernel_rfl) (exec_clash (by rfl) (by rfl)) ⟨hA1, ?_⟩
      (try simp only [List.getElem_toArray, List.getElem_cons_zero, List.getElem_cons_succ, Act.put, List.setIfInBounds_toArray, List.set_cons_zero, List.set_cons_succ])
      refine wpAnyH_value 4 (.slice A m c) (by kernel_rfl) (by rfl) (by kernel_rfl) (exec_loadR (by rfl) (by rfl) (load_clashes (HS4.out.below (bel_boxC w4 _)).slc)) hA1 ?_
      (try simp only [List.getElem_toArray, List.getElem_cons_zero, List.getElem_cons_succ, Act.put, List.setIfInBounds_toArray, List.set_cons_zero, List.set_cons_succ])
      refine wpAnyH_push1 14 (by kernel_rfl) (by rfl) _ _ 32 69 6 48 _ rfl Try.underlying32 info_clash rfl (by decide) w4 0 (.slice A m c) m xs0 (caC x u p wrote b) rfl (by kernel_rfl) rfl hxs rfl rfl (by simp [caC, Value.oneCell']) (by have := HM.out; omega) (by decide) (Nat.zero_le _) ?_
      intro g c' W5 ho hgr hb5 hat
      obtain ⟨⟨v0, hc0⟩, hf0, hS5, hT5⟩ := HS4.out.push hgr hat ho hx2
      have hH5 : Blk W5 w.heap.size 56 (noC x t) ∧ Blk W5 w1.heap.size 62 (acC u p b) := ⟨hH.1.grown hgr (fun e => (HEX.out _ (HS4.out.inF.2.2.2.2 _ e.symm)).1 rfl), hH.2.grown hgr (fun e => (HEX.out _ (HS4.out.inF.2.2.2.2 _ e.symm)).2 rfl)⟩
      refine ⟨hH5, ?_⟩
      (try simp only [List.getElem_toArray, List.getElem_cons_zero, List.getElem_cons_succ, Act.put, List.setIfInBounds_toArray, List.set_cons_zero, List.set_cons_succ])
      refine wpAnyH_take (i := 15) (v := .pointer (some ⟨xb, 0, none⟩)) rfl (by kernel_rfl) (by kernel_rfl) (by kernel_rfl) (fun _ _ _ h => h) (.inl ⟨by rfl, fun _ _ => by kernel_rfl⟩) hH5 ?_
      (try simp only [List.getElem_toArray, List.getElem_cons_zero, List.getElem_cons_succ, Act.put, List.setIfInBounds_toArray, List.set_cons_zero, List.set_cons_succ])
      refine wpAnyH_take (i := 16) (v := .pointer (some ⟨xb, 4227, none⟩)) rfl (by kernel_rfl) (by kernel_rfl) (by kernel_rfl) (fun _ _ _ h => h) (.inl ⟨by rfl, fun _ _ => by kernel_rfl⟩) hH5 ?_
      (try simp only [List.getElem_toArray, List.getElem_cons_zero, List.getElem_cons_succ, Act.put, List.setIfInBounds_toArray, List.set_cons_zero, List.set_cons_succ])
      obtain ⟨V, hV⟩ : ∃ V, W5.setCell ⟨xb, 4227, none⟩ (.slice (some ⟨g, 0, none⟩) (m + 1) c') = V := ⟨_, rfl⟩
      have SR : (Instr.storeAt 32 (.pointer (some ⟨xb, 4227, none⟩)) (.slice (some ⟨g, 0, none⟩) (m + 1) c')).run Try.prog W5 = .ok () V := by rw [← hV]; simp [go_sem, hc0, hf0]
      rw [hV] at hS5 hT5
      have hHV : Blk V w.heap.size 56 (noC x t) ∧ Blk V w1.heap.size 62 (acC u p b) := by
        rw [← hV]
        exact ⟨hH5.1.far (fun e => (HEX.out _ HS4.out.inF.1).1 e.symm) _, hH5.2.far (fun e => (HEX.out _ HS4.out.inF.1).2 e.symm) _⟩
      have HS5 := Lib.hid hS5
      have HT5 := Lib.hid hT5
      have HAT := Lib.hid hat
      clear hS5 hT5 hV hc0 hf0 ho hgr hb5
      refine wpAnyH_store 17 _ _ _ (by kernel_rfl) (by rfl) (by kernel_rfl) (by rfl) (by rfl) (by rfl) SR hHV ?_
      (try simp only [List.getElem_toArray, List.getElem_cons_zero, List.getElem_cons_succ, Act.put])
      refine wpAnyH_done (by kernel_rfl) ?_ _
      clear SR hHV hH5 hH hat
      go_wp2_with fail
      go_ret
      exact ⟨rfl, _, ⟨_, HS5.out⟩, (Tch.of_below (S := F) (HB13.out.trans (HB34.out.mono HB13.out.size))).trans HT5.out (fun _ h => .inl h), fun y hy => by
        rcases hy with hy | rfl
        · exact .inl hy
        · rcases HAT.out with h | h
          · exact .inl (HS4.out.inF.2.2.2.2 _ h)
          · exact .inr (Nat.le_trans (HB13.out.trans (HB34.out.mono HB13.out.size)).size h)⟩
end Go.Proofs.Ytoodifpkconfcaa
