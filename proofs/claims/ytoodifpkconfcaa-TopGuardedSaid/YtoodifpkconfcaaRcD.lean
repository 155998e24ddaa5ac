/- What workers are seen to do: New, Load, Store, Clock. Printed by genRcD.py. -/
import Derived.Test.YtoodifpkconfcaaRcC
import Derived.Test.YtoodifpkconfcaaYlP
import Derived.Deep.RegionHeld
import Derived.Deep.CutBlock
namespace Go.Proofs.Ytoodifpkconfcaa
open Go.RowKit Go.Maps Go.ChangeMaps Go.MapKept
theorem yieldsIf_indexA {ops : Array Oper} {S : World → Prop} {o : Oper} {a : Act} {xb u : Nat} (hw : Region.wanted o (yielded ops a.tmps) = true) (x y : Operand) (ho : o.op = .indexAddr 46 x y) (hx : a.eval x = .pointer (some ⟨xb, 0, none⟩)) (hy : a.eval y = .int .i64 ((u : Nat) : Int)) (hu : u < 65) : YieldsIf Try.prog ops S o (.pointer (some ⟨xb, u * 65, none⟩)) a := by
  refine .inl ⟨hw, fun w _ => ?_⟩
  have h5 : ¬ (65 ≤ (u : Int)) := by omega
  unfold execOp
  simp only [ho, hx, hy]
  simp [go_sem, h5]
theorem wpAnyH_updR {P : Program} {ops : Array Oper} {Q : Exit → Act → World → Prop} {md : Region.Mode} {S : World → Prop} {fuel : Nat} {listed : Array Bool} {a : Act} {w w' : World} {o : Oper} (i : Nat) (t : TypeId) (m x v : Operand) (hr : Region.ready md ops listed = [i]) (ho : ops[i]? = some o) (hw : Region.wanted o (yielded ops a.tmps) = true) (hop : o.op = .mapUpdate t m x v) {mv kv vv : Value} (hm : a.eval m = mv) (hx : a.eval x = kv) (hv : a.eval v = vv)
    (hrun : (Instr.mapUpdate t mv kv vv).run P w = .ok () w') (hS : S w') (h : wpAnyH P md ops Q S fuel (listed.setIfInBounds i true) (a.put o.dst undef) w') : wpAnyH P md ops Q S (fuel + 1) listed a w := by
  refine wpAnyH_ready hr (by simp) (AllReadyH.cons ho (fun K hK => ?_) AllReadyH.nil)
  rw [if_pos hw]
  unfold Oper.wp execOp
  simp only [hop, hm, hx, hv, Sem.run_bind, Result.andThen_ok, hrun]
  exact hK.out _ _ hS (fun _ => h)
theorem yieldsIf_lookR {ops : Array Oper} {S : World → Prop} {o : Oper} {a : Act} {t : TypeId} {m key v : Value} (hw : Region.wanted o (yielded ops a.tmps) = true) (x y : Operand) (ho : o.op = .lookup t x y false) (hx : a.eval x = m) (hy : a.eval y = key) (h : ∀ w, S w → (Instr.lookup t m key false).run Try.prog w = .ok v w) : YieldsIf Try.prog ops S o v a := by
  refine .inl ⟨hw, fun w hS => ?_⟩
  unfold execOp
  simp only [ho, hx, hy, Sem.run_bind, Result.andThen_ok, h w hS]
  rfl
theorem load_symapR {w : World} {b o b' : Nat} (h : w.cell? ⟨b, o, none⟩ = some (.map (some b'))) : (Instr.loadAt 42 (.pointer (some ⟨b, o, none⟩))).run Try.prog w = .ok (.map (some b')) w := by
  simp [go_sem, h]
theorem exec_loadR {o : Oper} {ρ : Operand → Value} {ty : TypeId} {x : Operand} {p v : Value} {w : World} (ho : o.op = .load ty x) (hx : ρ x = p) (h : (Instr.loadAt ty p).run Try.prog w = .ok v w) : (execOp ρ o).run Try.prog w = .ok (.value v) w := by
  unfold execOp
  simp only [ho, hx, Sem.run_bind, Result.andThen_ok, h]
  rfl
theorem Tch.und {S : Nat → Prop} {w Z : World} {n : Nat} (h : Tch S (w.drewN n) Z) : Tch S w Z := ⟨h.os, h.tape, h.output, h.size, h.block⟩
def stepC (c : List Int) (u : Nat) : List Int := c.set u (ig c u + 1)
theorem stepC_len {c : List Int} (h : c.length = 65) (u : Nat) : (stepC c u).length = 65 := by unfold stepC; rw [List.length_set]; exact h
set_option maxRecDepth 100000 in
theorem rc_has (xb : Nat) (u : Nat) (hu : u < 65) (w : World) : Calls Try.prog 22 #[.pointer (some ⟨xb, 0, none⟩), .int .i64 ((u : Nat) : Int)] w (fun e w' => e = .returned (.bool true) ∧ w = w') := by
  have t1 : decide ((u : Int) ≥ 0) = true := decide_eq_true (by omega)
  have t2 : decide ((u : Int) ≤ 64) = true := decide_eq_true (by omega)
  have t3 : decide (u ≤ 64) = true := decide_eq_true (by omega)
  go_enter Try.func22, Try.ntmps22
  go_wp2_with fail
  go_ret
  exact ⟨by simp, rfl⟩
set_option maxRecDepth 100000 in
set_option maxHeartbeats 4000000 in
theorem rc_load {w : World} {F : Nat → Prop} {xb sy da : Nat} {ck : Nat → List Int} {fs : Int → Option (List Int)} {nt : Int → Option NtR} {sl : Value} {m N : Nat} (S : RcS w F xb sy da ck fs nt sl m N) (u : Nat) (hu : u < 65) (p : Int) (hp : (Lit.int .i64 p).wf = true) :
    Calls Try.prog 10 #[.pointer (some ⟨xb, 0, none⟩), .int .i64 ((u : Nat) : Int), .int .i64 p] w (fun e w' => e = .returned (.tuple #[]) ∧ RcS w' F xb sy da (upC ck u (mxC (ck u) (syC fs p))) fs nt sl m N ∧ Tch F w w') := by
  have HS := Lib.hid S
  have HU := Lib.hid hu
  have HP := Lib.hid hp
  clear S hu hp
  go_enter Try.func10, Try.ntmps10
  go_upto_region 1 with (go_at_call 22; (with_reducible refine (rc_has xb u HU.out w).mono ?_); rintro e w' ⟨rfl, rfl⟩)
  refine wp_region_held_drew (S := fun W => ∃ ck', RcS W F xb sy da ck' fs nt sl m N) (by kernel_rfl) ⟨ck, HS.out.below (below_drewN (Below.refl _ w) 1)⟩ (fun hH => ?_)
  have HS0 := Lib.hid (HS.out.below (below_drewN (Below.refl _ w) 1))
  refine wpAnyH_take (i := 0) (v := .pointer (some ⟨xb, 0, none⟩)) rfl (by kernel_rfl) (by kernel_rfl) (by kernel_rfl) (fun _ _ _ h => h) (.inl ⟨by rfl, fun _ _ => by kernel_rfl⟩) hH ?_
  (try simp only [List.getElem_toArray, List.getElem_cons_zero, Act.put, List.setIfInBounds_toArray, List.set_cons_zero, List.set_cons_succ])
  refine wpAnyH_take (i := 1) (v := .int .i64 ((u : Nat) : Int)) rfl (by kernel_rfl) (by kernel_rfl) (by kernel_rfl) (fun _ _ _ h => h) (.inl ⟨by rfl, fun _ _ => by kernel_rfl⟩) hH ?_
  (try simp only [List.getElem_toArray, List.getElem_cons_zero, List.getElem_cons_succ, Act.put, List.setIfInBounds_toArray, List.set_cons_zero, List.set_cons_succ])
  refine wpAnyH_take (i := 2) (v := .pointer (some ⟨xb, 0, none⟩)) rfl (by kernel_rfl) (by kernel_rfl) (by kernel_rfl) (fun _ _ _ h => h) (.inl ⟨by rfl, fun _ _ => by kernel_rfl⟩) hH ?_
  (try simp only [List.getElem_toArray, List.getElem_cons_zero, List.getElem_cons_succ, Act.put, List.setIfInBounds_toArray, List.set_cons_zero, List.set_cons_succ])
  refine wpAnyH_take (i := 3) (v := .int .i64 ((u : Nat) : Int)) rfl (by kernel_rfl) (by kernel_rfl) (by kernel_rfl) (fun _ _ _ h => h) (.inl ⟨by rfl, fun _ _ => by kernel_rfl⟩) hH ?_
  (try simp only [List.getElem_toArray, List.getElem_cons_zero, List.getElem_cons_succ, Act.put, List.setIfInBounds_toArray, List.set_cons_zero, List.set_cons_succ])
  refine wpAnyH_take (i := 4) (v := .pointer (some ⟨xb, 0, none⟩)) rfl (by kernel_rfl) (by kernel_rfl) (by kernel_rfl) (fun _ _ _ h => h) (.inl ⟨by rfl, fun _ _ => by kernel_rfl⟩) hH ?_
  (try simp only [List.getElem_toArray, List.getElem_cons_zero, List.getElem_cons_succ, Act.put, List.setIfInBounds_toArray, List.set_cons_zero, List.set_cons_succ])
  refine wpAnyH_take (i := 5) (v := .pointer (some ⟨xb, 0, none⟩)) rfl (by kernel_rfl) (by kernel_rfl) (by kernel_rfl) (fun _ _ _ h => h) (.inl ⟨by rfl, fun _ _ => by kernel_rfl⟩) hH ?_
  (try simp only [List.getElem_toArray, List.getElem_cons_zero, List.getElem_cons_succ, Act.put, List.setIfInBounds_toArray, List.set_cons_zero, List.set_cons_succ])
  refine wpAnyH_take (i := 6) (v := .pointer (some ⟨xb, u * 65, none⟩)) rfl (by kernel_rfl) (by kernel_rfl) (by kernel_rfl) (fun _ _ _ h => h) (yieldsIf_indexA (by rfl) _ _ rfl rfl rfl HU.out) hH ?_
  (try simp only [List.getElem_toArray, List.getElem_cons_zero, List.getElem_cons_succ, Act.put, List.setIfInBounds_toArray, List.set_cons_zero, List.set_cons_succ])
  refine wpAnyH_take (i := 8) (v := .pointer (some ⟨xb, 0, none⟩)) rfl (by kernel_rfl) (by kernel_rfl) (by kernel_rfl) (fun _ _ _ h => h) (.inl ⟨by rfl, fun _ _ => by kernel_rfl⟩) hH ?_
  (try simp only [List.getElem_toArray, List.getElem_cons_zero, List.getElem_cons_succ, Act.put, List.setIfInBounds_toArray, List.set_cons_zero, List.set_cons_succ])
  refine wpAnyH_take (i := 9) (v := .pointer (some ⟨xb, 0, none⟩)) rfl (by kernel_rfl) (by kernel_rfl) (by kernel_rfl) (fun _ _ _ h => h) (.inl ⟨by rfl, fun _ _ => by kernel_rfl⟩) hH ?_
  (try simp only [List.getElem_toArray, List.getElem_cons_zero, List.getElem_cons_succ, Act.put, List.setIfInBounds_toArray, List.set_cons_zero, List.set_cons_succ])
  refine wpAnyH_take (i := 10) (v := .pointer (some ⟨xb, 4225, none⟩)) rfl (by kernel_rfl) (by kernel_rfl) (by kernel_rfl) (fun _ _ _ h => h) (.inl ⟨by rfl, fun _ _ => by kernel_rfl⟩) hH ?_
  (try simp only [List.getElem_toArray, List.getElem_cons_zero, List.getElem_cons_succ, Act.put, List.setIfInBounds_toArray, List.set_cons_zero, List.set_cons_succ])
  refine wpAnyH_take (i := 11) (v := .map (some sy)) rfl (by kernel_rfl) (by kernel_rfl) (by kernel_rfl) (fun _ _ _ h => h) (yieldsIf_loadP (by rfl) _ rfl rfl (fun _ q => by obtain ⟨_, q⟩ := q; exact load_symapR q.symap)) hH ?_
  (try simp only [List.getElem_toArray, List.getElem_cons_zero, List.getElem_cons_succ, Act.put, List.setIfInBounds_toArray, List.set_cons_zero, List.set_cons_succ])
  refine wpAnyH_take (i := 12) (v := .int .i64 p) rfl (by kernel_rfl) (by kernel_rfl) (by kernel_rfl) (fun _ _ _ h => h) (.inl ⟨by rfl, fun _ _ => by kernel_rfl⟩) hH ?_
  (try simp only [List.getElem_toArray, List.getElem_cons_zero, List.getElem_cons_succ, Act.put, List.setIfInBounds_toArray, List.set_cons_zero, List.set_cons_succ])
  refine wpAnyH_take (i := 13) (v := .agg (clC (syC fs p))) rfl (by kernel_rfl) (by kernel_rfl) (by kernel_rfl) (fun _ _ _ h => h) (yieldsIf_lookR (by rfl) _ _ rfl rfl rfl (fun _ q => by obtain ⟨_, q⟩ := q; exact (q.sync p HP.out).1)) hH ?_
  (try simp only [List.getElem_toArray, List.getElem_cons_zero, List.getElem_cons_succ, Act.put, List.setIfInBounds_toArray, List.set_cons_zero, List.set_cons_succ])
  refine wpAnyH_take (i := 15) (v := .pointer (some ⟨xb, 0, none⟩)) rfl (by kernel_rfl) (by kernel_rfl) (by kernel_rfl) (fun _ _ _ h => h) (.inl ⟨by rfl, fun _ _ => by kernel_rfl⟩) hH ?_
  (try simp only [List.getElem_toArray, List.getElem_cons_zero, List.getElem_cons_succ, Act.put, List.setIfInBounds_toArray, List.set_cons_zero, List.set_cons_succ])
  refine wpAnyH_take (i := 16) (v := .pointer (some ⟨xb, 0, none⟩)) rfl (by kernel_rfl) (by kernel_rfl) (by kernel_rfl) (fun _ _ _ h => h) (.inl ⟨by rfl, fun _ _ => by kernel_rfl⟩) hH ?_
  (try simp only [List.getElem_toArray, List.getElem_cons_zero, List.getElem_cons_succ, Act.put, List.setIfInBounds_toArray, List.set_cons_zero, List.set_cons_succ])
  refine wpAnyH_value 7 (.agg (clC (ck u))) (by kernel_rfl) (by rfl) (by kernel_rfl) (exec_loadR (by rfl) (by rfl) (HS0.out.load HU.out)) hH ?_
  (try simp only [List.getElem_toArray, List.getElem_cons_zero, List.getElem_cons_succ, Act.put, List.setIfInBounds_toArray, List.set_cons_zero, List.set_cons_succ])
  refine wpAnyH_call 14 24 #[.agg (clC (ck u)), .agg (clC (syC fs p))] _ (by kernel_rfl) (by rfl) (by kernel_rfl) (by kernel_rfl) (cl_with _ _ (HS.out.ckl u HU.out) (HS.out.sync p HP.out).2 _) ?_
  rintro e Z ⟨rfl, hbZ⟩
  have hSZ := HS0.out.below hbZ
  have HSZ := Lib.hid hSZ
  have HBZ := Lib.hid hbZ
  clear hSZ hbZ
  refine ⟨_, rfl, ⟨_, HSZ.out⟩, ?_⟩
  (try simp only [List.getElem_toArray, List.getElem_cons_zero, List.getElem_cons_succ, Act.put, List.setIfInBounds_toArray, List.set_cons_zero, List.set_cons_succ])
  refine wpAnyH_take (i := 17) (v := .pointer (some ⟨xb, u * 65, none⟩)) rfl (by kernel_rfl) (by kernel_rfl) (by kernel_rfl) (fun _ _ _ h => h) (yieldsIf_indexA (by rfl) _ _ rfl rfl rfl HU.out) ⟨_, HSZ.out⟩ ?_
  (try simp only [List.getElem_toArray, List.getElem_cons_zero, List.getElem_cons_succ, Act.put, List.setIfInBounds_toArray, List.set_cons_zero, List.set_cons_succ])
  obtain ⟨ST, hS4, hT4⟩ := HSZ.out.setClock (c := mxC (ck u) (syC fs p)) HU.out (mxC_len (HS.out.ckl u HU.out) (HS.out.sync p HP.out).2)
  have HS4 := Lib.hid hS4
  have HT4 : Hid (Tch F w (Z.setCells xb (u * 65) (clC (mxC (ck u) (syC fs p))).toList)) := ((Tch.of_below (S := F) HBZ.out).trans hT4 (fun _ h => .inl h)).und
  obtain ⟨V, hV⟩ : ∃ V, Z.setCells xb (u * 65) (clC (mxC (ck u) (syC fs p))).toList = V := ⟨_, rfl⟩
  rw [hV] at ST HS4 HT4
  clear hS4 hT4 hV
  refine wpAnyH_store 18 _ _ _ (by kernel_rfl) (by rfl) (by kernel_rfl) (by rfl) (by rfl) (by rfl) ST ⟨_, HS4.out⟩ ?_
  (try simp only [List.getElem_toArray, List.getElem_cons_zero, List.getElem_cons_succ, Act.put])
  refine wpAnyH_done (by kernel_rfl) ?_ _
  clear ST HSZ HBZ HS0 hH
  go_wp2_with fail
  go_end0
  exact ⟨rfl, HS4.out, HT4.out⟩
set_option maxRecDepth 100000 in
set_option maxHeartbeats 4000000 in
theorem rc_store {w : World} {F : Nat → Prop} {xb sy da : Nat} {ck : Nat → List Int} {fs : Int → Option (List Int)} {nt : Int → Option NtR} {sl : Value} {m N : Nat} (S : RcS w F xb sy da ck fs nt sl m N) (u : Nat) (hu : u < 65) (p : Int) (hp : (Lit.int .i64 p).wf = true) (hN : N < 1048576) (hb : 0 ≤ ig (ck u) u ∧ ig (ck u) u ≤ 1048576) :
    Calls Try.prog 8 #[.pointer (some ⟨xb, 0, none⟩), .int .i64 ((u : Nat) : Int), .int .i64 p] w (fun e w' => e = .returned (.tuple #[]) ∧ RcS w' F xb sy da (upC ck u (stepC (ck u) u)) (upO fs p (ck u)) nt sl m (N + 1) ∧ Tch F w w') := by
  have HS := Lib.hid S
  have HU := Lib.hid hu
  have HP := Lib.hid hp
  have HNN := Lib.hid hN
  have HBD := Lib.hid hb
  clear S hu hp hN hb
  go_enter Try.func8, Try.ntmps8
  go_upto_region 1 with (go_at_call 22; (with_reducible refine (rc_has xb u HU.out w).mono ?_); rintro e w' ⟨rfl, rfl⟩)
  go_cut [9] from 9 to 19 (fun _ wx => Hid (RcS wx F xb sy da ck (upO fs p (ck u)) nt sl m (N + 1)) ∧ Hid (Tch F w wx))
  case first =>
    refine wp_region_held_drew (S := fun W => ∃ fs' N', RcS W F xb sy da ck fs' nt sl m N') (by kernel_rfl) ⟨fs, N, HS.out.below (below_drewN (Below.refl _ w) 1)⟩ (fun hH => ?_)
    have HS0 := Lib.hid (HS.out.below (below_drewN (Below.refl _ w) 1))
    refine wpAnyH_take (i := 0) (v := .pointer (some ⟨xb, 0, none⟩)) rfl (by kernel_rfl) (by kernel_rfl) (by kernel_rfl) (fun _ _ _ h => h) (.inl ⟨by rfl, fun _ _ => by kernel_rfl⟩) hH ?_
    (try simp only [List.getElem_toArray, List.getElem_cons_zero, Act.put, List.setIfInBounds_toArray, List.set_cons_zero, List.set_cons_succ])
    refine wpAnyH_take (i := 1) (v := .pointer (some ⟨xb, 0, none⟩)) rfl (by kernel_rfl) (by kernel_rfl) (by kernel_rfl) (fun _ _ _ h => h) (.inl ⟨by rfl, fun _ _ => by kernel_rfl⟩) hH ?_
    (try simp only [List.getElem_toArray, List.getElem_cons_zero, List.getElem_cons_succ, Act.put, List.setIfInBounds_toArray, List.set_cons_zero, List.set_cons_succ])
    refine wpAnyH_take (i := 2) (v := .pointer (some ⟨xb, 4225, none⟩)) rfl (by kernel_rfl) (by kernel_rfl) (by kernel_rfl) (fun _ _ _ h => h) (.inl ⟨by rfl, fun _ _ => by kernel_rfl⟩) hH ?_
    (try simp only [List.getElem_toArray, List.getElem_cons_zero, List.getElem_cons_succ, Act.put, List.setIfInBounds_toArray, List.set_cons_zero, List.set_cons_succ])
    refine wpAnyH_take (i := 3) (v := .map (some sy)) rfl (by kernel_rfl) (by kernel_rfl) (by kernel_rfl) (fun _ _ _ h => h) (yieldsIf_loadP (by rfl) _ rfl rfl (fun _ q => by obtain ⟨_, _, q⟩ := q; exact load_symapR q.symap)) hH ?_
    (try simp only [List.getElem_toArray, List.getElem_cons_zero, List.getElem_cons_succ, Act.put, List.setIfInBounds_toArray, List.set_cons_zero, List.set_cons_succ])
    refine wpAnyH_take (i := 4) (v := .int .i64 p) rfl (by kernel_rfl) (by kernel_rfl) (by kernel_rfl) (fun _ _ _ h => h) (.inl ⟨by rfl, fun _ _ => by kernel_rfl⟩) hH ?_
    (try simp only [List.getElem_toArray, List.getElem_cons_zero, List.getElem_cons_succ, Act.put, List.setIfInBounds_toArray, List.set_cons_zero, List.set_cons_succ])
    refine wpAnyH_take (i := 5) (v := .pointer (some ⟨xb, 0, none⟩)) rfl (by kernel_rfl) (by kernel_rfl) (by kernel_rfl) (fun _ _ _ h => h) (.inl ⟨by rfl, fun _ _ => by kernel_rfl⟩) hH ?_
    (try simp only [List.getElem_toArray, List.getElem_cons_zero, List.getElem_cons_succ, Act.put, List.setIfInBounds_toArray, List.set_cons_zero, List.set_cons_succ])
    refine wpAnyH_take (i := 6) (v := .int .i64 ((u : Nat) : Int)) rfl (by kernel_rfl) (by kernel_rfl) (by kernel_rfl) (fun _ _ _ h => h) (.inl ⟨by rfl, fun _ _ => by kernel_rfl⟩) hH ?_
    (try simp only [List.getElem_toArray, List.getElem_cons_zero, List.getElem_cons_succ, Act.put, List.setIfInBounds_toArray, List.set_cons_zero, List.set_cons_succ])
    refine wpAnyH_take (i := 7) (v := .pointer (some ⟨xb, 0, none⟩)) rfl (by kernel_rfl) (by kernel_rfl) (by kernel_rfl) (fun _ _ _ h => h) (.inl ⟨by rfl, fun _ _ => by kernel_rfl⟩) hH ?_
    (try simp only [List.getElem_toArray, List.getElem_cons_zero, List.getElem_cons_succ, Act.put, List.setIfInBounds_toArray, List.set_cons_zero, List.set_cons_succ])
    refine wpAnyH_take (i := 8) (v := .pointer (some ⟨xb, 0, none⟩)) rfl (by kernel_rfl) (by kernel_rfl) (by kernel_rfl) (fun _ _ _ h => h) (.inl ⟨by rfl, fun _ _ => by kernel_rfl⟩) hH ?_
    (try simp only [List.getElem_toArray, List.getElem_cons_zero, List.getElem_cons_succ, Act.put, List.setIfInBounds_toArray, List.set_cons_zero, List.set_cons_succ])
    refine wpAnyH_take (i := 9) (v := .pointer (some ⟨xb, u * 65, none⟩)) rfl (by kernel_rfl) (by kernel_rfl) (by kernel_rfl) (fun _ _ _ h => h) (yieldsIf_indexA (by rfl) _ _ rfl rfl rfl HU.out) hH ?_
    (try simp only [List.getElem_toArray, List.getElem_cons_zero, List.getElem_cons_succ, Act.put, List.setIfInBounds_toArray, List.set_cons_zero, List.set_cons_succ])
    refine wpAnyH_take (i := 10) (v := .agg (clC (ck u))) rfl (by kernel_rfl) (by kernel_rfl) (by kernel_rfl) (fun _ _ _ h => h) (yieldsIf_loadP (by rfl) _ rfl rfl (fun _ q => by obtain ⟨_, _, q⟩ := q; exact q.load HU.out)) hH ?_
    (try simp only [List.getElem_toArray, List.getElem_cons_zero, List.getElem_cons_succ, Act.put, List.setIfInBounds_toArray, List.set_cons_zero, List.set_cons_succ])
    obtain ⟨Z, hrun, hSZ, hTZ⟩ := HS0.out.setSync HNN.out p HP.out (HS.out.ckl u HU.out)
    have HSZ := Lib.hid hSZ
    have HTZ : Hid (Tch F w Z) := hTZ.und
    clear hSZ hTZ
    refine wpAnyH_updR 11 _ _ _ _ (by kernel_rfl) (by rfl) (by kernel_rfl) (by rfl) (by rfl) (by rfl) (by rfl) hrun ⟨_, _, HSZ.out⟩ ?_
    (try simp only [List.getElem_toArray, List.getElem_cons_zero, List.getElem_cons_succ, Act.put])
    refine wpAnyH_done (by kernel_rfl) ?_ _
    clear hrun hH HS0
    go_wp2_with fail
    go_meet
    exact ⟨HSZ, HTZ⟩
  case rest =>
  obtain ⟨HS1, HT1⟩ := hcut
  obtain ⟨W1, hW1⟩ : ∃ q, wc = q := ⟨_, rfl⟩
  rw [hW1] at HS1 HT1 ⊢
  clear hW1
  obtain ⟨f1, hf1⟩ : ∃ f, upO fs p (ck u) = f := ⟨_, rfl⟩
  rw [hf1] at HS1
  have HF1 := Lib.hid hf1
  clear hf1
  go_upto_region 2 with fail
  refine wp_region_held_drew (S := fun W => ∃ ck', RcS W F xb sy da ck' f1 nt sl m (N + 1)) (by kernel_rfl) ⟨ck, HS1.out.below (below_drewN (Below.refl _ W1) 1)⟩ (fun hH => ?_)
  have HS0 := Lib.hid (HS1.out.below (below_drewN (Below.refl _ W1) 1))
  refine wpAnyH_take (i := 0) (v := .pointer (some ⟨xb, 0, none⟩)) rfl (by kernel_rfl) (by kernel_rfl) (by kernel_rfl) (fun _ _ _ h => h) (.inl ⟨by rfl, fun _ _ => by kernel_rfl⟩) hH ?_
  (try simp only [List.getElem_toArray, List.getElem_cons_zero, Act.put, List.setIfInBounds_toArray, List.set_cons_zero, List.set_cons_succ])
  refine wpAnyH_take (i := 1) (v := .int .i64 ((u : Nat) : Int)) rfl (by kernel_rfl) (by kernel_rfl) (by kernel_rfl) (fun _ _ _ h => h) (.inl ⟨by rfl, fun _ _ => by kernel_rfl⟩) hH ?_
  (try simp only [List.getElem_toArray, List.getElem_cons_zero, List.getElem_cons_succ, Act.put, List.setIfInBounds_toArray, List.set_cons_zero, List.set_cons_succ])
  refine wpAnyH_take (i := 2) (v := .pointer (some ⟨xb, 0, none⟩)) rfl (by kernel_rfl) (by kernel_rfl) (by kernel_rfl) (fun _ _ _ h => h) (.inl ⟨by rfl, fun _ _ => by kernel_rfl⟩) hH ?_
  (try simp only [List.getElem_toArray, List.getElem_cons_zero, List.getElem_cons_succ, Act.put, List.setIfInBounds_toArray, List.set_cons_zero, List.set_cons_succ])
  refine wpAnyH_take (i := 3) (v := .int .i64 ((u : Nat) : Int)) rfl (by kernel_rfl) (by kernel_rfl) (by kernel_rfl) (fun _ _ _ h => h) (.inl ⟨by rfl, fun _ _ => by kernel_rfl⟩) hH ?_
  (try simp only [List.getElem_toArray, List.getElem_cons_zero, List.getElem_cons_succ, Act.put, List.setIfInBounds_toArray, List.set_cons_zero, List.set_cons_succ])
  refine wpAnyH_take (i := 4) (v := .pointer (some ⟨xb, 0, none⟩)) rfl (by kernel_rfl) (by kernel_rfl) (by kernel_rfl) (fun _ _ _ h => h) (.inl ⟨by rfl, fun _ _ => by kernel_rfl⟩) hH ?_
  (try simp only [List.getElem_toArray, List.getElem_cons_zero, List.getElem_cons_succ, Act.put, List.setIfInBounds_toArray, List.set_cons_zero, List.set_cons_succ])
  refine wpAnyH_take (i := 5) (v := .pointer (some ⟨xb, 0, none⟩)) rfl (by kernel_rfl) (by kernel_rfl) (by kernel_rfl) (fun _ _ _ h => h) (.inl ⟨by rfl, fun _ _ => by kernel_rfl⟩) hH ?_
  (try simp only [List.getElem_toArray, List.getElem_cons_zero, List.getElem_cons_succ, Act.put, List.setIfInBounds_toArray, List.set_cons_zero, List.set_cons_succ])
  refine wpAnyH_take (i := 6) (v := .pointer (some ⟨xb, u * 65, none⟩)) rfl (by kernel_rfl) (by kernel_rfl) (by kernel_rfl) (fun _ _ _ h => h) (yieldsIf_indexA (by rfl) _ _ rfl rfl rfl HU.out) hH ?_
  (try simp only [List.getElem_toArray, List.getElem_cons_zero, List.getElem_cons_succ, Act.put, List.setIfInBounds_toArray, List.set_cons_zero, List.set_cons_succ])
  refine wpAnyH_take (i := 8) (v := .int .i64 ((u : Nat) : Int)) rfl (by kernel_rfl) (by kernel_rfl) (by kernel_rfl) (fun _ _ _ h => h) (.inl ⟨by rfl, fun _ _ => by kernel_rfl⟩) hH ?_
  (try simp only [List.getElem_toArray, List.getElem_cons_zero, List.getElem_cons_succ, Act.put, List.setIfInBounds_toArray, List.set_cons_zero, List.set_cons_succ])
  refine wpAnyH_take (i := 10) (v := .pointer (some ⟨xb, 0, none⟩)) rfl (by kernel_rfl) (by kernel_rfl) (by kernel_rfl) (fun _ _ _ h => h) (.inl ⟨by rfl, fun _ _ => by kernel_rfl⟩) hH ?_
  (try simp only [List.getElem_toArray, List.getElem_cons_zero, List.getElem_cons_succ, Act.put, List.setIfInBounds_toArray, List.set_cons_zero, List.set_cons_succ])
  refine wpAnyH_take (i := 11) (v := .pointer (some ⟨xb, 0, none⟩)) rfl (by kernel_rfl) (by kernel_rfl) (by kernel_rfl) (fun _ _ _ h => h) (.inl ⟨by rfl, fun _ _ => by kernel_rfl⟩) hH ?_
  (try simp only [List.getElem_toArray, List.getElem_cons_zero, List.getElem_cons_succ, Act.put, List.setIfInBounds_toArray, List.set_cons_zero, List.set_cons_succ])
  refine wpAnyH_value 7 (.agg (clC (ck u))) (by kernel_rfl) (by rfl) (by kernel_rfl) (exec_loadR (by rfl) (by rfl) (HS0.out.load HU.out)) hH ?_
  (try simp only [List.getElem_toArray, List.getElem_cons_zero, List.getElem_cons_succ, Act.put, List.setIfInBounds_toArray, List.set_cons_zero, List.set_cons_succ])
  refine wpAnyH_call 9 21 #[.agg (clC (ck u)), .int .i64 ((u : Nat) : Int)] _ (by kernel_rfl) (by rfl) (by kernel_rfl) (by kernel_rfl) (cl_step _ (HS.out.ckl u HU.out) u HU.out HBD.out _) ?_
  rintro e Z ⟨rfl, hbZ⟩
  have hSZ := HS0.out.below hbZ
  have HSZ := Lib.hid hSZ
  have HBZ := Lib.hid hbZ
  clear hSZ hbZ
  refine ⟨_, rfl, ⟨_, HSZ.out⟩, ?_⟩
  (try simp only [List.getElem_toArray, List.getElem_cons_zero, List.getElem_cons_succ, Act.put, List.setIfInBounds_toArray, List.set_cons_zero, List.set_cons_succ])
  refine wpAnyH_take (i := 12) (v := .pointer (some ⟨xb, u * 65, none⟩)) rfl (by kernel_rfl) (by kernel_rfl) (by kernel_rfl) (fun _ _ _ h => h) (yieldsIf_indexA (by rfl) _ _ rfl rfl rfl HU.out) ⟨_, HSZ.out⟩ ?_
  (try simp only [List.getElem_toArray, List.getElem_cons_zero, List.getElem_cons_succ, Act.put, List.setIfInBounds_toArray, List.set_cons_zero, List.set_cons_succ])
  obtain ⟨ST, hS4, hT4⟩ := HSZ.out.setClock (c := (ck u).set u (ig (ck u) u + 1)) HU.out (by rw [List.length_set]; exact HS.out.ckl u HU.out)
  have HS4 := Lib.hid hS4
  have HT4 : Hid (Tch F W1 (Z.setCells xb (u * 65) (clC ((ck u).set u (ig (ck u) u + 1))).toList)) := ((Tch.of_below (S := F) HBZ.out).trans hT4 (fun _ h => .inl h)).und
  obtain ⟨V, hV⟩ : ∃ V, Z.setCells xb (u * 65) (clC ((ck u).set u (ig (ck u) u + 1))).toList = V := ⟨_, rfl⟩
  rw [hV] at ST HS4 HT4
  clear hS4 hT4 hV
  refine wpAnyH_store 13 _ _ _ (by kernel_rfl) (by rfl) (by kernel_rfl) (by rfl) (by rfl) (by rfl) ST ⟨_, HS4.out⟩ ?_
  (try simp only [List.getElem_toArray, List.getElem_cons_zero, List.getElem_cons_succ, Act.put])
  refine wpAnyH_done (by kernel_rfl) ?_ _
  clear ST HSZ HBZ HS0 hH
  go_wp2_with fail
  go_end0
  exact ⟨rfl, by rw [HF1.out]; exact HS4.out, HT1.out.trans HT4.out (fun _ h => .inl h)⟩
set_option maxRecDepth 100000 in
set_option maxHeartbeats 4000000 in
theorem rc_clock {w : World} {F : Nat → Prop} {xb sy da : Nat} {ck : Nat → List Int} {fs : Int → Option (List Int)} {nt : Int → Option NtR} {sl : Value} {m N : Nat} (S : RcS w F xb sy da ck fs nt sl m N) (u : Nat) (hu : u < 65) :
    Calls Try.prog 9 #[.pointer (some ⟨xb, 0, none⟩), .int .i64 ((u : Nat) : Int)] w (RetCl (ck u) w) := by
  have HU := Lib.hid hu
  have LD := S.load hu
  have HL := Lib.hid (cl_list (ck u) (S.ckl u hu) w)
  have u5 : (u : Int) < 65 := by omega
  clear S hu
  go_enter Try.func9, Try.ntmps9
  go_wp2_with (first
    | (go_at_call 22; (with_reducible refine (rc_has xb u HU.out w).mono ?_); rintro e w' ⟨rfl, rfl⟩)
    | refine wpList_loadE LD _ rfl rfl rfl ?_
    | (go_at_call 23; (with_reducible refine HL.out.mono ?_); rintro e w1 ⟨g, n, rfl, h0, h1, h2, h3, h4⟩; have H0 := Lib.hid h0; have H1 := Lib.hid h1; have H2 := Lib.hid h2; have H3 := Lib.hid h3; have H4 := Lib.hid h4; clear h0 h1 h2 h3 h4))
  go_ret
  exact ⟨g, n, rfl, H0.out, H1.out, H2.out, H3.out, H4.out⟩
def wtA (sy da : Nat) : Array Value := (List.replicate 4225 (Value.int .i64 0) ++ [Value.map (some sy), Value.map (some da), Value.slice none 0 0]).toArray
theorem wtA_wt (sy da : Nat) : WtC (wtA sy da) (fun _ => cl0) sy da (.slice none 0 0) := by
  have h : ∀ i, (wtA sy da)[i]? = if i < 4225 then some (.int .i64 0) else ([Value.map (some sy), Value.map (some da), Value.slice none 0 0])[i - 4225]? := fun i => by
    unfold wtA
    rw [List.getElem?_toArray]
    by_cases hi : i < 4225
    · rw [if_pos hi, List.getElem?_append_left (by rw [List.length_replicate]; exact hi), List.getElem?_replicate, if_pos hi]
    · rw [if_neg hi, List.getElem?_append_right (by rw [List.length_replicate]; omega), List.length_replicate]
  refine ⟨by unfold wtA; rw [List.size_toArray, List.length_append, List.length_replicate]; rfl, fun u hu i hi => ?_, ?_, ?_, ?_⟩
  · rw [h, if_pos (by omega), ig_cl0]
  · rw [h, if_neg (by omega)]; rfl
  · rw [h, if_neg (by omega)]; rfl
  · rw [h, if_neg (by omega)]; rfl
theorem exec_buildW {o : Oper} {ρ : Operand → Value} {x y : Operand} {a b : Nat} {w : World} (ho : o.op = .build 48 #[(1, x), (2, y)]) (hx : ρ x = .map (some a)) (hy : ρ y = .map (some b)) : (execOp ρ o).run Try.prog w = .ok (.value (.agg (wtA a b))) w := by
  unfold execOp
  simp only [ho]
  rw [show (#[(1, x), (2, y)] : Array (Nat × Operand)).map (fun p => (p.1, ρ p.2)) = #[(1, Value.map (some a)), (2, Value.map (some b))] by simp [hx, hy]]
  kernel_rfl
theorem exec_boxW {o : Oper} {ρ : Operand → Value} {x : Operand} {a b : Nat} {w w' : World} (ho : o.op = .box 48 x) (hx : ρ x = .agg (wtA a b)) (h : w.alloc (.cells (wtA a b) 48) = w') : (execOp ρ o).run Try.prog w = .ok (.value (.pointer (some ⟨w.heap.size, 0, none⟩))) w' := by
  unfold execOp
  simp only [ho, hx]
  subst h
  kernel_rfl
def ckJ (j : Nat) : Nat → List Int := fun u => if u < j then stepC cl0 u else cl0
theorem ckJ_up (j : Nat) : upC (ckJ j) j (stepC cl0 j) = ckJ (j + 1) := by
  funext u
  unfold upC ckJ
  by_cases h : u = j
  · rw [if_pos h, if_pos (by omega), h]
  · rw [if_neg h]
    by_cases h2 : u < j
    · rw [if_pos h2, if_pos (by omega)]
    · rw [if_neg h2, if_neg (by omega)]
set_option maxRecDepth 100000 in
set_option maxHeartbeats 4000000 in
theorem rc_new (w : World) : Calls Try.prog 7 #[] w (fun e w' => ∃ xb sy da, e = .returned (.pointer (some ⟨xb, 0, none⟩)) ∧ RcS w' (fun x => x = xb ∨ x = sy ∨ x = da) xb sy da (ckJ 65) (fun _ => none) (fun _ => none) (.slice none 0 0) 0 0 ∧ Below w.heap.size w w' ∧ w.heap.size ≤ xb ∧ w.heap.size ≤ sy ∧ w.heap.size ≤ da) := by
  obtain ⟨w1, hw1⟩ : ∃ x, w.alloc (.map #[] 0) = x := ⟨_, rfl⟩
  obtain ⟨w2, hw2⟩ : ∃ x, w1.alloc (.map #[] 0) = x := ⟨_, rfl⟩
  obtain ⟨w3, hw3⟩ : ∃ x, w2.alloc (.cells (wtA w.heap.size w1.heap.size) 48) = x := ⟨_, rfl⟩
  have hm1 : (Instr.makeMap 42 none).run Try.prog w = .ok (.map (some w.heap.size)) w1 := by rw [← hw1]; exact run_makeMap _ _
  have hm2 : (Instr.makeMap 43 none).run Try.prog w1 = .ok (.map (some w1.heap.size)) w2 := by rw [← hw2]; exact run_makeMap _ _
  have b1 : Below w.heap.size w w1 := by rw [← hw1]; exact bel_boxC _ _
  have b2 : Below w1.heap.size w1 w2 := by rw [← hw2]; exact bel_boxC _ _
  have b3 : Below w2.heap.size w2 w3 := by rw [← hw3]; exact bel_boxC _ _
  have e1 : w1.heap.size = w.heap.size + 1 := by rw [← hw1]; simp only [World.alloc, Array.size_push]
  have e2 : w2.heap.size = w1.heap.size + 1 := by rw [← hw2]; simp only [World.alloc, Array.size_push]
  have e3 : w3.heap.size = w2.heap.size + 1 := by rw [← hw3]; simp only [World.alloc, Array.size_push]
  have k1 : w1.ownsMap Try.prog 3 clElem w.heap.size 0 (.map []) := by rw [← hw1]; exact World.ownsMap_made w Try.prog 3 clElem
  have k2 : w2.ownsMap Try.prog 3 ptElem w1.heap.size 0 (.map []) := by rw [← hw2]; exact World.ownsMap_made w1 Try.prog 3 ptElem
  have k3 : Blk w3 w2.heap.size 48 (wtA w.heap.size w1.heap.size) := by rw [← hw3]; exact Blk.new _ _ _
  have h12 := b1.trans (b2.mono b1.size)
  have h13 := h12.trans (b3.mono h12.size)
  have hS : RcS w3 (fun x => x = w2.heap.size ∨ x = w.heap.size ∨ x = w1.heap.size) w2.heap.size w.heap.size w1.heap.size (ckJ 0) (fun _ => none) (fun _ => none) (.slice none 0 0) 0 0 :=
    ⟨⟨_, k3, by have := wtA_wt w.heap.size w1.heap.size; exact ⟨this.sz, fun u hu i hi => by rw [this.ck u hu i hi]; rfl, this.sy, this.da, this.sl⟩⟩,
     ⟨_, ownsMap_atR (ownsMap_atR k1 (b2.block _ (by omega))) (b3.block _ (by omega)), KvF.nil⟩,
     ⟨_, ownsMap_atR k2 (b3.block _ (by omega)), KvF.nil⟩,
     fun k r h => (by cases h), ⟨[], World.ownsRow_nil _ _ _ _, fun u h => (by cases h)⟩, fun u _ => (by unfold ckJ; rw [if_neg (Nat.not_lt_zero _)]; exact cl0_len), fun k c h => (by cases h),
     ⟨.inl rfl, .inr (.inl rfl), .inr (.inr rfl), fun k r h => (by cases h), fun g h => (by cases h)⟩, fun x hx => (by rcases hx with rfl | rfl | rfl <;> omega),
     ⟨by omega, by omega, by omega⟩, fun k r h => (by cases h), fun k r k' r' h => (by cases h), fun g h => (by cases h), fun k r h => (by cases h)⟩
  have HS := Lib.hid hS
  have HB := Lib.hid h13
  have HLO : Hid (w.heap.size ≤ w2.heap.size ∧ w.heap.size ≤ w1.heap.size) := ⟨h12.size, b1.size⟩
  have HW3 := Lib.hid hw3
  obtain ⟨xb, hxb⟩ : ∃ x, w2.heap.size = x := ⟨_, rfl⟩
  obtain ⟨sy, hsy⟩ : ∃ x, w.heap.size = x := ⟨_, rfl⟩
  obtain ⟨da, hda⟩ : ∃ x, w1.heap.size = x := ⟨_, rfl⟩
  have HXB := Lib.hid hxb
  have HSY := Lib.hid hsy
  have HDA := Lib.hid hda
  clear hxb hsy hda
  clear b1 b2 b3 e1 e2 e3 k1 k2 k3 h12 h13 hS hw1 hw2 hw3
  go_enter Try.func7, Try.ntmps7
  go_upto_region 2 with (first
    | refine wpList_valE rfl (exec_buildW rfl rfl rfl) ?_
    | refine wpList_valE rfl (exec_boxW rfl rfl HW3.out) ?_)
  clear hm1 hm2
  rw [HXB.out, HSY.out, HDA.out] at HS
  rw [HSY.out] at HB
  rw [HXB.out, HDA.out, HSY.out] at HLO
  (try simp only [HXB.out])
  go_upto_region 3 with fail
  go_loopw [2, 7] (fun _ s7 wr => ∃ (j : Nat), j ≤ 65 ∧ s7 = .int .i64 j ∧ Hid (RcS wr (fun x => x = xb ∨ x = sy ∨ x = da) xb sy da (ckJ j) (fun _ => none) (fun _ => none) (.slice none 0 0) 0 0) ∧ Hid (Below sy w wr)) (fun _ s7 _ => 65 - (RowKit.intOf s7).toNat)
  case atStart => exact ⟨0, by decide, rfl, HS, HB⟩
  case round =>
    clear HS HB
    obtain ⟨j, hj, rfl, HS, HB⟩ := hrel
    by_cases hlt : j < 65
    · have HU := Lib.hid hlt
      have hlen : (stepC cl0 j).length = 65 := stepC_len cl0_len j
      obtain ⟨W1, hW1⟩ : ∃ q, wr = q := ⟨_, rfl⟩
      rw [hW1] at HS HB ⊢
      have hcj : ckJ j j = cl0 := by unfold ckJ; rw [if_neg (Nat.lt_irrefl _)]
      have HLD : Hid (∀ W N, RcS W (fun x => x = xb ∨ x = sy ∨ x = da) xb sy da (ckJ j) (fun _ => none) (fun _ => none) (.slice none 0 0) 0 N → (Instr.loadAt 45 (.pointer (some ⟨xb, j * 65, none⟩))).run Try.prog W = .ok (.agg (clC cl0)) W) := fun W N h => by have := h.load hlt; rw [hcj] at this; exact this
      have HLEN := Lib.hid hlen
      have j5 : (j : Int) < 65 := by omega
      clear hW1 hcj hlen hlt
      go_upto_region 5 with fail
      refine wp_region_held_drew (S := fun W => ∃ ck', RcS W (fun x => x = xb ∨ x = sy ∨ x = da) xb sy da ck' (fun _ => none) (fun _ => none) (.slice none 0 0) 0 0) (by kernel_rfl) ⟨ckJ j, HS.out.below (below_drewN (Below.refl _ W1) 1)⟩ (fun hH => ?_)
      have HS0 := Lib.hid (HS.out.below (below_drewN (Below.refl _ W1) 1))
      refine wpAnyH_take (i := 0) (v := .pointer (some ⟨xb, 0, none⟩)) rfl (by kernel_rfl) (by kernel_rfl) (by kernel_rfl) (fun _ _ _ h => h) (.inl ⟨by rfl, fun _ _ => by kernel_rfl⟩) hH ?_
      (try simp only [List.getElem_toArray, List.getElem_cons_zero, Act.put, List.setIfInBounds_toArray, List.set_cons_zero, List.set_cons_succ])
      refine wpAnyH_take (i := 1) (v := .int .i64 ((j : Nat) : Int)) rfl (by kernel_rfl) (by kernel_rfl) (by kernel_rfl) (fun _ _ _ h => h) (.inl ⟨by rfl, fun _ _ => by kernel_rfl⟩) hH ?_
      (try simp only [List.getElem_toArray, List.getElem_cons_zero, List.getElem_cons_succ, Act.put, List.setIfInBounds_toArray, List.set_cons_zero, List.set_cons_succ])
      refine wpAnyH_take (i := 2) (v := .pointer (some ⟨xb, 0, none⟩)) rfl (by kernel_rfl) (by kernel_rfl) (by kernel_rfl) (fun _ _ _ h => h) (.inl ⟨by rfl, fun _ _ => by kernel_rfl⟩) hH ?_
      (try simp only [List.getElem_toArray, List.getElem_cons_zero, List.getElem_cons_succ, Act.put, List.setIfInBounds_toArray, List.set_cons_zero, List.set_cons_succ])
      refine wpAnyH_take (i := 3) (v := .int .i64 ((j : Nat) : Int)) rfl (by kernel_rfl) (by kernel_rfl) (by kernel_rfl) (fun _ _ _ h => h) (.inl ⟨by rfl, fun _ _ => by kernel_rfl⟩) hH ?_
      (try simp only [List.getElem_toArray, List.getElem_cons_zero, List.getElem_cons_succ, Act.put, List.setIfInBounds_toArray, List.set_cons_zero, List.set_cons_succ])
      refine wpAnyH_take (i := 4) (v := .pointer (some ⟨xb, 0, none⟩)) rfl (by kernel_rfl) (by kernel_rfl) (by kernel_rfl) (fun _ _ _ h => h) (.inl ⟨by rfl, fun _ _ => by kernel_rfl⟩) hH ?_
      (try simp only [List.getElem_toArray, List.getElem_cons_zero, List.getElem_cons_succ, Act.put, List.setIfInBounds_toArray, List.set_cons_zero, List.set_cons_succ])
      refine wpAnyH_take (i := 5) (v := .pointer (some ⟨xb, 0, none⟩)) rfl (by kernel_rfl) (by kernel_rfl) (by kernel_rfl) (fun _ _ _ h => h) (.inl ⟨by rfl, fun _ _ => by kernel_rfl⟩) hH ?_
      (try simp only [List.getElem_toArray, List.getElem_cons_zero, List.getElem_cons_succ, Act.put, List.setIfInBounds_toArray, List.set_cons_zero, List.set_cons_succ])
      refine wpAnyH_take (i := 6) (v := .pointer (some ⟨xb, j * 65, none⟩)) rfl (by kernel_rfl) (by kernel_rfl) (by kernel_rfl) (fun _ _ _ h => h) (yieldsIf_indexA (by rfl) _ _ rfl rfl rfl HU.out) hH ?_
      (try simp only [List.getElem_toArray, List.getElem_cons_zero, List.getElem_cons_succ, Act.put, List.setIfInBounds_toArray, List.set_cons_zero, List.set_cons_succ])
      refine wpAnyH_take (i := 8) (v := .int .i64 ((j : Nat) : Int)) rfl (by kernel_rfl) (by kernel_rfl) (by kernel_rfl) (fun _ _ _ h => h) (.inl ⟨by rfl, fun _ _ => by kernel_rfl⟩) hH ?_
      (try simp only [List.getElem_toArray, List.getElem_cons_zero, List.getElem_cons_succ, Act.put, List.setIfInBounds_toArray, List.set_cons_zero, List.set_cons_succ])
      refine wpAnyH_take (i := 10) (v := .pointer (some ⟨xb, 0, none⟩)) rfl (by kernel_rfl) (by kernel_rfl) (by kernel_rfl) (fun _ _ _ h => h) (.inl ⟨by rfl, fun _ _ => by kernel_rfl⟩) hH ?_
      (try simp only [List.getElem_toArray, List.getElem_cons_zero, List.getElem_cons_succ, Act.put, List.setIfInBounds_toArray, List.set_cons_zero, List.set_cons_succ])
      refine wpAnyH_take (i := 11) (v := .pointer (some ⟨xb, 0, none⟩)) rfl (by kernel_rfl) (by kernel_rfl) (by kernel_rfl) (fun _ _ _ h => h) (.inl ⟨by rfl, fun _ _ => by kernel_rfl⟩) hH ?_
      (try simp only [List.getElem_toArray, List.getElem_cons_zero, List.getElem_cons_succ, Act.put, List.setIfInBounds_toArray, List.set_cons_zero, List.set_cons_succ])
      refine wpAnyH_value 7 (.agg (clC cl0)) (by kernel_rfl) (by rfl) (by kernel_rfl) (exec_loadR (by rfl) (by rfl) (HLD.out _ _ HS0.out)) hH ?_
      (try simp only [List.getElem_toArray, List.getElem_cons_zero, List.getElem_cons_succ, Act.put, List.setIfInBounds_toArray, List.set_cons_zero, List.set_cons_succ])
      refine wpAnyH_call 9 21 #[.agg (clC cl0), .int .i64 ((j : Nat) : Int)] _ (by kernel_rfl) (by rfl) (by kernel_rfl) (by kernel_rfl) (cl_step _ cl0_len j HU.out (by rw [ig_cl0]; decide) _) ?_
      rintro e Z ⟨rfl, hbZ⟩
      have HSZ := Lib.hid (HS0.out.below hbZ)
      have HBZ := Lib.hid hbZ
      clear hbZ
      refine ⟨_, rfl, ⟨_, HSZ.out⟩, ?_⟩
      (try simp only [List.getElem_toArray, List.getElem_cons_zero, List.getElem_cons_succ, Act.put, List.setIfInBounds_toArray, List.set_cons_zero, List.set_cons_succ])
      refine wpAnyH_take (i := 12) (v := .pointer (some ⟨xb, j * 65, none⟩)) rfl (by kernel_rfl) (by kernel_rfl) (by kernel_rfl) (fun _ _ _ h => h) (yieldsIf_indexA (by rfl) _ _ rfl rfl rfl HU.out) ⟨_, HSZ.out⟩ ?_
      (try simp only [List.getElem_toArray, List.getElem_cons_zero, List.getElem_cons_succ, Act.put, List.setIfInBounds_toArray, List.set_cons_zero, List.set_cons_succ])
      obtain ⟨ST, hS4, hT4⟩ := HSZ.out.setClock (c := cl0.set j (ig cl0 j + 1)) HU.out HLEN.out
      obtain ⟨V, hV⟩ : ∃ V, Z.setCells xb (j * 65) (clC (cl0.set j (ig cl0 j + 1))).toList = V := ⟨_, rfl⟩
      rw [hV] at ST hS4 hT4
      have HS4 : Hid (RcS V (fun x => x = xb ∨ x = sy ∨ x = da) xb sy da (ckJ (j + 1)) (fun _ => none) (fun _ => none) (.slice none 0 0) 0 0) := by show RcS _ _ _ _ _ _ _ _ _ _ _; rw [← ckJ_up]; exact hS4
      have HB4 : Hid (Below sy w V) := by
        have h1 : Below sy w Z := HB.out.trans ((show Below W1.heap.size W1 Z from ⟨HBZ.out.os, HBZ.out.tape, HBZ.out.output, HBZ.out.size, HBZ.out.block⟩).mono (by rw [← HSY.out]; exact HB.out.size))
        exact h1.trans (hT4.below (by rw [← HSY.out]; exact h1.size) (fun x hx => by have h1 := HLO.out; have h2 := HSY.out; rcases hx with rfl | rfl | rfl <;> omega))
      clear hS4 hT4 hV
      refine wpAnyH_store 13 _ _ _ (by kernel_rfl) (by rfl) (by kernel_rfl) (by rfl) (by rfl) (by rfl) ST ⟨_, HS4.out⟩ ?_
      (try simp only [List.getElem_toArray, List.getElem_cons_zero, List.getElem_cons_succ, Act.put])
      refine wpAnyH_done (by kernel_rfl) ?_ _
      clear ST HSZ HBZ HS0 hH HS HB
      go_wp2_with fail
      go_roundw
      case rel => exact ⟨j + 1, by have := HU.out; omega, by go_num, HS4, HB4⟩
      case measure => have := HU.out; simp [RowKit.intOf]; omega
    · obtain rfl : j = 65 := by omega
      go_wp2_with fail
      go_ret
      exact ⟨xb, sy, da, rfl, HS.out, by rw [HSY.out]; exact HB.out, by rw [HSY.out]; exact HLO.out.1, by rw [HSY.out]; exact Nat.le_refl _, by rw [HSY.out]; exact HLO.out.2⟩
end Go.Proofs.Ytoodifpkconfcaa
