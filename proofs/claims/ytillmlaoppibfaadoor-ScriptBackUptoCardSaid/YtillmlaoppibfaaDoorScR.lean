/- Scripts: slices.Repeat over one act. (Printed by tools/genScR.py.) -/
import Derived.Test.YtillmlaoppibfaaDoorScY
import Derived.Test.YtillmlaoppibfaaDoorTch
import Derived.Laws.MakeOwn
import Derived.Laws.IdiomCopy
namespace Go.Proofs.YtillmlaoppibfaaDoor
open Go.RowKit Go.Sort
theorem wpList_valR {P : Program} {ops : Array Oper} {rest : List Oper} {op : Oper} {a : Act} {w w' : World} {Q : Exit → Act → World → Prop} {v : Value} (hg : op.guard = none) (hr : (execOp a.eval op).run P w = .ok (.value v) w') (h : wpList P ops Q rest (a.put op.dst v) w') : wpList P ops Q (op :: rest) a w := by
  refine wpList_step fun K hK => ?_
  rw [if_pos (by unfold Region.wanted; rw [hg])]
  unfold Oper.wp
  rw [hr]
  exact hK _ _ h
theorem exec_copyR {P : Program} {ρ : Operand → Value} {o : Oper} {w w' : World} {d s : Operand} {t t' : TypeId} {v u v' : Value} (ho : o.op = .call { callee := .builtin .copy, args := #[d, s], argTypes := #[t, t'] }) (hd : ρ d = v) (hs : ρ s = u)
    (hr : (Builtin.copy_ #[t, t'] o.type #[v, u]).run P w = .ok v' w') : (execOp ρ o).run P w = .ok (.value v') w' := by
  unfold execOp
  simp only [ho, resolve, invoke, builtin, Sem.run_bind, Sem.run_pure, Result.andThen_ok, List.map_toArray, List.map_cons, List.map_nil, hd, hs, hr]
theorem exec_makeR {P : Program} {ρ : Operand → Value} {o : Oper} {w w' : World} {t : TypeId} {x y : Operand} {v u v' : Value} (ho : o.op = .makeSlice t x y) (hx : ρ x = v) (hy : ρ y = u) (hr : (Instr.makeSlice t v u).run P w = .ok v' w') : (execOp ρ o).run P w = .ok (.value v') w' := by
  unfold execOp
  simp only [ho, hx, hy, Sem.run_bind, Sem.run_pure, Result.andThen_ok, hr]
theorem info_actR : (Tryd.prog.info? 40).map (fun i => (i.zero, i.size, i.bytes)) = some (some (.agg #[.int .i64 0, .int .i64 0, .int .u64 0, .slice none 0 0, .int .u64 0, .int .i64 0, .int .i64 0, .int .u64 0]), 8, 80) := by kernel_rfl
theorem make_acts (n : Nat) (hn : n ≤ 1048576) (w : World) : (Instr.makeSlice 24 (.int .i64 (n : Int)) (.int .i64 (n : Int))).run Tryd.prog w = .ok (.slice (some ⟨w.heap.size, 0, none⟩) n n) (w.alloc (.cells (madeCells #[.int .i64 0, .int .i64 0, .int .u64 0, .slice none 0 0, .int .u64 0, .int .i64 0, .int .i64 0, .int .u64 0] (n * 8)) 40)) := by
  obtain ⟨i, hi, hzz⟩ := Option.map_eq_some_iff.1 info_actR
  simp only [Prod.mk.injEq] at hzz
  obtain ⟨hz, hs, hb⟩ := hzz
  have hr := run_make (P := Tryd.prog) w 24 40 i _ Tryd.underlying24 hi hz .i64 .i64 n n (by omega) (Int.le_refl _) (by rw [hb]; omega) (by omega)
  simp only [Int.toNat_natCast, hs] at hr
  exact hr
theorem run_copyR (w : World) (ty : TypeId) (g o dLen dCap : Nat) (a : Addr) (sLen sCap : Nat) (cs : List Value) (hn : cs.length = Nat.min sLen dLen * 8)
    (hsrc : ∀ j v, cs[j]? = some v → w.cell? (a.add j) = some v) (hc : ∀ j, j < cs.length → (w.cell? ⟨g, o + j, none⟩).isSome = true) (hf : ∀ j, j < cs.length → w.frozen? ⟨g, o + j, none⟩ = false) (h1 : ∀ v ∈ cs, v.oneCell' = true) :
    (Builtin.copy_ #[24, 24] ty #[.slice (some ⟨g, o, none⟩) dLen dCap, .slice (some a) sLen sCap]).run Tryd.prog w = .ok (goInt (Nat.min sLen dLen)) (w.setCells g o cs) := by
  have hl := run_loadCells_list (P := Tryd.prog) w a cs hsrc
  have hst := run_storeCells_cells (P := Tryd.prog) g o cs 0 w (by simpa using hc) (by simpa using hf) h1
  obtain ⟨i, hi, hzz⟩ := Option.map_eq_some_iff.1 info_actR
  simp only [Prod.mk.injEq] at hzz
  obtain ⟨hz, hs, hb⟩ := hzz
  simp [Builtin.copy_, run_underlying Tryd.underlying24, Builtin.lenOf, Builtin.firstCells, sizeOf, typeInfo, hi, hs, ← hn, hl, hst]
theorem only_setCells {q : Nat} : ∀ {a w : World} (_ : a.grownBy w (some q)) (o : Nat) (vs : List Value), a.grownBy (w.setCells q o vs) (some q)
  | _, _, h, _, [] => h
  | _, _, h, o, v :: vs => only_setCells (only_setCell h o v) (o + 1) vs
/-- k acts of n are filled. -/
def FlS (w : World) (q n k : Nat) (cs : Array Value) : Prop := ∃ ds : Array Value, Blk w q 40 ds ∧ ds.size = n * 8 ∧ (∀ j, j < k * 8 → ds[j]? = cs[j % 8]?)
theorem FlS.copy {w : World} {q n k m : Nat} {cs : Array Value} (h : FlS w q n k cs) (h1 : ∀ v ∈ cs.toList, v.oneCell' = true) (hm : m = Nat.min k (n - k)) (ty : TypeId) (c1 c2 : Nat) :
    ∃ w', (Builtin.copy_ #[24, 24] ty #[.slice (some ⟨q, 0 + k * 8, none⟩) (n - k) c1, .slice (some ⟨q, 0, none⟩) k c2]).run Tryd.prog w = .ok (.int .i64 (m : Nat)) w' ∧ FlS w' q n (k + m) cs ∧ w.grownBy w' (some q) := by
  obtain ⟨ds, hb, hs, hd⟩ := h
  have hmk : m ≤ k := by rw [hm]; exact Nat.min_le_left _ _
  have hmn : m ≤ n - k := by rw [hm]; exact Nat.min_le_right _ _
  have hsz : (ds.toList.take (m * 8)).length = m * 8 := by rw [List.length_take, Array.length_toList, hs]; omega
  have hr := run_copyR w ty q (0 + k * 8) (n - k) c1 ⟨q, 0, none⟩ k c2 (ds.toList.take (m * 8)) (by rw [hsz, hm]) (fun j v hv => by
      rw [List.getElem?_take] at hv
      split at hv
      · rw [Addr.add_lit, Nat.zero_add, hb.cell, ← Array.getElem?_toList, hv]
      · cases hv)
    (fun j hj => by rw [hsz] at hj; rw [hb.cell, Array.getElem?_eq_getElem (by omega)]; rfl)
    (fun j _ => hb.frozen _) (fun v hv => by
      obtain ⟨j, hj⟩ := List.mem_iff_getElem?.1 hv
      rw [List.getElem?_take] at hj
      split at hj
      · rw [Array.getElem?_toList, hd j (by omega), ← Array.getElem?_toList] at hj
        exact h1 v (List.mem_of_getElem? hj)
      · cases hj)
  obtain ⟨ds', k1, k2, k3⟩ := Blk.setCells (ds.toList.take (m * 8)) (0 + k * 8) w ds hb
  refine ⟨_, by rw [hr, ← hm]; rfl, ⟨ds', k1, by rw [k2, hs], fun j hj => ?_⟩, ?_⟩
  · rw [k3 j, hsz]
    by_cases hjk : j < k * 8
    · rw [if_neg (by omega)]
      exact hd j hjk
    · rw [if_pos ⟨by omega, by omega, by omega⟩, List.getElem?_take, if_pos (by omega), Array.getElem?_toList, hd _ (by omega), show (j - (0 + k * 8)) % 8 = j % 8 by omega]
  · exact only_setCells (World.grownBy.refl w _) _ _
theorem FlS.first {w : World} {q n g : Nat} {ds cs : Array Value} (h : Blk w q 40 ds) (hs : ds.size = n * 8) (hn : 1 ≤ n) (hg : Blk w g 40 cs) (hcs : cs.size = 8) (h1 : ∀ v ∈ cs.toList, v.oneCell' = true) (ty : TypeId) :
    ∃ w', (Builtin.copy_ #[24, 24] ty #[.slice (some ⟨q, 0, none⟩) n n, .slice (some ⟨g, 0, none⟩) 1 1]).run Tryd.prog w = .ok (.int .i64 1) w' ∧ FlS w' q n 1 cs ∧ w.grownBy w' (some q) := by
  have hm : Nat.min 1 n = 1 := Nat.min_eq_left hn
  have hr := run_copyR w ty q 0 n n ⟨g, 0, none⟩ 1 1 cs.toList (by rw [hm, Array.length_toList, hcs]) (fun j v hv => by rw [Addr.add_lit, Nat.zero_add, hg.cell, ← Array.getElem?_toList, hv])
    (fun j hj => by rw [Array.length_toList, hcs] at hj; rw [h.cell, Array.getElem?_eq_getElem (by omega)]; rfl) (fun j _ => h.frozen _) h1
  obtain ⟨ds', k1, k2, k3⟩ := Blk.setCells cs.toList 0 w ds h
  refine ⟨_, by rw [hr, hm]; rfl, ⟨ds', k1, by rw [k2, hs], fun j hj => ?_⟩, only_setCells (World.grownBy.refl w _) _ _⟩
  rw [k3 j, Array.length_toList, hcs, if_pos ⟨Nat.zero_le _, by omega, by omega⟩, Nat.sub_zero, Array.getElem?_toList, show j % 8 = j by omega]
theorem FlS.done {w : World} {q n : Nat} {cs : Array Value} (h : FlS w q n n cs) (hcs : cs.size = 8) : Blk w q 40 (List.replicate n cs.toList).flatten.toArray := by
  obtain ⟨ds, hb, hs, hd⟩ := h
  have hl : ∀ c ∈ List.replicate n cs.toList, c.length = 8 := fun c hc => by rw [(List.mem_replicate.1 hc).2, Array.length_toList, hcs]
  have e : ds = (List.replicate n cs.toList).flatten.toArray := by
    refine Array.ext_getElem? fun j => ?_
    have hfl := flat_len (List.replicate n cs.toList) hl
    rw [List.length_replicate] at hfl
    by_cases hj : j < n * 8
    · rw [hd j hj, List.getElem?_toArray]
      have hg := flat_get (List.replicate n cs.toList) hl (j / 8) (j % 8) cs.toList (by rw [List.getElem?_replicate, if_pos (by omega)]) (Nat.mod_lt _ (by omega))
      rw [show j / 8 * 8 + j % 8 = j by omega, Array.getElem?_toList] at hg
      exact hg.symm
    · rw [Array.getElem?_eq_none (by omega), List.getElem?_toArray, List.getElem?_eq_none (by omega)]
  rw [← e]
  exact hb
theorem run_hiR (A : Option Addr) (m c k : Nat) (hk : k ≤ c) (w : World) :
    (Instr.slice 24 (.slice A m c) none (some (.int .i64 k)) none).run Tryd.prog w = .ok (.slice A k c) w := by
  have he : Tryd.prog.underlying 24 = some (.slice (Tryd.prog.elem 24)) := by unfold Program.elem; rw [Tryd.underlying24]
  rw [run_slice_h w 24 A m c he .i64 k (by omega) (by omega), sz_act]
  simp only [Result.andThen, sliced, Int.toNat_natCast, Nat.zero_mul, Nat.sub_zero]
  have e : (A.map fun x => x.add 0) = A := by cases A <;> rfl
  rw [e, ite_self]
theorem yieldsIf_fromR {ops : Array Oper} {S : World → Prop} {o : Oper} {a : Act} {q n k : Nat} (hw : Region.wanted o (yielded ops a.tmps) = true) (x y : Operand) (ho : o.op = .slice 24 x (some y) none none) (hx : a.eval x = .slice (some ⟨q, 0, none⟩) n n) (hy : a.eval y = .int .i64 (k : Nat)) (hk : k < n) :
    YieldsIf Tryd.prog ops S o (.slice (some ⟨q, 0 + k * 8, none⟩) (n - k) (n - k)) a := by
  refine .inl ⟨hw, fun w _ => ?_⟩
  have h := run_fromY (some ⟨q, 0, none⟩) n n k (by omega) w
  rw [show subB (some ⟨q, 0, none⟩) k n = some ⟨q, 0 + k * 8, none⟩ by unfold subB; rw [if_neg (by omega), Nat.zero_add]; show some (Addr.add ⟨q, 0, none⟩ (k * 8)) = _; rw [Addr.add_lit, Nat.zero_add]] at h
  unfold execOp
  simp only [ho, hx, hy, Option.map_some, Option.map_none]
  simp [go_sem, h]
theorem yieldsIf_hiR {ops : Array Oper} {S : World → Prop} {o : Oper} {a : Act} {q n k : Nat} (hw : Region.wanted o (yielded ops a.tmps) = true) (x y : Operand) (ho : o.op = .slice 24 x none (some y) none) (hx : a.eval x = .slice (some ⟨q, 0, none⟩) n n) (hy : a.eval y = .int .i64 (k : Nat)) (hk : k ≤ n) :
    YieldsIf Tryd.prog ops S o (.slice (some ⟨q, 0, none⟩) k n) a := by
  refine .inl ⟨hw, fun w _ => ?_⟩
  have h := run_hiR (some ⟨q, 0, none⟩) n n k hk w
  unfold execOp
  simp only [ho, hx, hy, Option.map_some, Option.map_none]
  simp [go_sem, h]
theorem yieldsIf_addR {P : Program} {ops : Array Oper} {S : World → Prop} {o : Oper} {a : Act} {t t' : TypeId} {m n r : Int} (hw : Region.wanted o (yielded ops a.tmps) = true) (x y : Operand) (ho : o.op = .binOp .add t x y t') (hx : a.eval x = .int .i64 m) (hy : a.eval y = .int .i64 n) (hr : IntKind.i64.wrap (m + n) = r) : YieldsIf P ops S o (.int .i64 r) a := by
  refine .inl ⟨hw, fun w _ => ?_⟩
  unfold execOp
  simp only [ho, hx, hy]
  simp [go_sem, ← hr]
set_option maxHeartbeats 8000000 in
set_option maxRecDepth 100000 in
theorem sl_repeat (g n : Nat) (cs : Array Value) (hcs : cs.size = 8) (h1 : ∀ v ∈ cs.toList, v.oneCell' = true) (hn1 : 1 ≤ n) (hn : n ≤ 4096) (w : World) (hg : Blk w g 40 cs) :
    Calls Tryd.prog 41 #[.slice (some ⟨g, 0, none⟩) 1 1, .int .i64 (n : Nat)] w fun e w' => e = .returned (.slice (some ⟨w.heap.size, 0, none⟩) n n) ∧ Blk w' w.heap.size 40 (List.replicate n cs.toList).flatten.toArray ∧ Below w.heap.size w w' := by
  have HM : Hid (∀ w, Calls Tryd.prog 55 #[.int .u64 1, .int .u64 (n : Nat)] w fun e w' => e = .returned (.tuple #[.int .u64 0, .int .u64 (n : Nat)]) ∧ w' = w) := fun w => (sh_bits_Mul 1 n (by omega) (by omega) w).mono fun e w' ⟨h, h'⟩ => ⟨by rw [h, Nat.one_mul, Nat.div_eq_of_lt (by omega), Nat.mod_eq_of_lt (by omega)]; rfl, h'⟩
  have HMK := make_acts n (by omega) w
  obtain ⟨W1, hW1⟩ : ∃ W, w.alloc (.cells (madeCells #[.int .i64 0, .int .i64 0, .int .u64 0, .slice none 0 0, .int .u64 0, .int .i64 0, .int .i64 0, .int .u64 0] (n * 8)) 40) = W := ⟨_, rfl⟩
  rw [hW1] at HMK
  have hb1 : Blk W1 w.heap.size 40 (madeCells #[.int .i64 0, .int .i64 0, .int .u64 0, .slice none 0 0, .int .u64 0, .int .i64 0, .int .i64 0, .int .u64 0] (n * 8)) := by rw [← hW1]; exact Blk.new _ _ _
  have hbel : Below w.heap.size w W1 := by rw [← hW1]; exact bel_boxX _ _
  obtain ⟨W2, hcp, hF, hgr⟩ := FlS.first hb1 (by simp [madeCells]) hn1 (hg.below hbel hg.lt) hcs h1 3
  have HB2 : Hid (Below w.heap.size w W2) := hbel.trans (below_of_only hgr hbel.size (Nat.le_refl _))
  have HF2 := Lib.hid hF
  have H1 := Lib.hid h1
  have HW1 := Lib.hid hW1
  clear hW1 hb1 hbel hF hgr h1 hg
  go_enter Tryd.func41, Tryd.ntmps41
  have hn0 : decide ((n : Int) < 0) = false := by simp
  have hcv : IntKind.i64.wrap (n : Int) = n := by rw [IntKind.wrap_i64]; omega
  have hcu : IntKind.u64.wrap (n : Int) = n := by rw [IntKind.wrap_u64]; omega
  go_wp2_with (first
    | (go_at_call 55; refine (HM.out _).mono ?_; rintro e w' ⟨rfl, hw'⟩; rw [hw']; clear hw')
    | refine wpList_valR rfl (exec_makeR rfl rfl rfl HMK) ?_
    | refine wpList_valR rfl (exec_copyR rfl rfl rfl hcp) ?_)
  clear HMK hcp HW1
  go_loopw [8] (fun s8 wr => ∃ k : Nat, k ≤ n ∧ 1 ≤ k ∧ s8 = .int .i64 k ∧ Hid (FlS wr w.heap.size n k cs) ∧ Hid (Below w.heap.size w wr)) (fun s8 _ => n - (intOf s8).toNat)
  case atStart => exact ⟨1, hn1, Nat.le_refl _, rfl, HF2, HB2⟩
  case round =>
    clear HF2 HB2
    obtain ⟨k, hk, hk1, rfl, HF, HB⟩ := hrel
    by_cases hlt : k < n
    · obtain ⟨m, hm⟩ : ∃ m, m = Nat.min k (n - k) := ⟨_, rfl⟩
      obtain ⟨W3, hc3, hF3, hg3⟩ := FlS.copy (w := wr.drew) HF.out H1.out hm 3 (n - k) n
      have hmk : m ≤ k ∧ m ≤ n - k ∧ 1 ≤ m := by
        refine ⟨by rw [hm]; exact Nat.min_le_left _ _, by rw [hm]; exact Nat.min_le_right _ _, ?_⟩
        rw [hm]
        exact Nat.le_min.2 ⟨hk1, by omega⟩
      have HB3 : Hid (Below w.heap.size w W3) := (below_drewN HB.out 1).trans (below_of_only hg3 HB.out.size (Nat.le_refl _))
      have HF3 := Lib.hid hF3
      clear hF3 hg3 hm
      go_wp2_with fail
      refine wp_region_held_drew (S := fun _ => True) (by kernel_rfl) trivial (fun hH => ?_)
      refine wpAnyH_take (i := 0) (v := .int .i64 (k : Int)) rfl (by kernel_rfl) (by kernel_rfl) (by kernel_rfl) (fun _ _ _ h => h) (.inl ⟨by rfl, fun _ _ => by kernel_rfl⟩) hH ?_
      (try simp only [List.getElem_toArray, List.getElem_cons_zero, Act.put, List.setIfInBounds_toArray, List.set_cons_zero, List.set_cons_succ])
      refine wpAnyH_take (i := 1) (v := .slice (some ⟨w.heap.size, 0, none⟩) n n) rfl (by kernel_rfl) (by kernel_rfl) (by kernel_rfl) (fun _ _ _ h => h) (.inl ⟨by rfl, fun _ _ => by kernel_rfl⟩) hH ?_
      (try simp only [List.getElem_toArray, List.getElem_cons_zero, List.getElem_cons_succ, Act.put, List.setIfInBounds_toArray, List.set_cons_zero, List.set_cons_succ])
      refine wpAnyH_take (i := 2) (v := .int .i64 (k : Int)) rfl (by kernel_rfl) (by kernel_rfl) (by kernel_rfl) (fun _ _ _ h => h) (.inl ⟨by rfl, fun _ _ => by kernel_rfl⟩) hH ?_
      (try simp only [List.getElem_toArray, List.getElem_cons_zero, List.getElem_cons_succ, Act.put, List.setIfInBounds_toArray, List.set_cons_zero, List.set_cons_succ])
      refine wpAnyH_take (i := 3) (v := .slice (some ⟨w.heap.size, 0 + k * 8, none⟩) (n - k) (n - k)) rfl (by kernel_rfl) (by kernel_rfl) (by kernel_rfl) (fun _ _ _ h => h) (yieldsIf_fromR (by rfl) _ _ rfl rfl rfl hlt) hH ?_
      (try simp only [List.getElem_toArray, List.getElem_cons_zero, List.getElem_cons_succ, Act.put, List.setIfInBounds_toArray, List.set_cons_zero, List.set_cons_succ])
      refine wpAnyH_take (i := 4) (v := .slice (some ⟨w.heap.size, 0, none⟩) n n) rfl (by kernel_rfl) (by kernel_rfl) (by kernel_rfl) (fun _ _ _ h => h) (.inl ⟨by rfl, fun _ _ => by kernel_rfl⟩) hH ?_
      (try simp only [List.getElem_toArray, List.getElem_cons_zero, List.getElem_cons_succ, Act.put, List.setIfInBounds_toArray, List.set_cons_zero, List.set_cons_succ])
      refine wpAnyH_take (i := 5) (v := .int .i64 (k : Int)) rfl (by kernel_rfl) (by kernel_rfl) (by kernel_rfl) (fun _ _ _ h => h) (.inl ⟨by rfl, fun _ _ => by kernel_rfl⟩) hH ?_
      (try simp only [List.getElem_toArray, List.getElem_cons_zero, List.getElem_cons_succ, Act.put, List.setIfInBounds_toArray, List.set_cons_zero, List.set_cons_succ])
      refine wpAnyH_take (i := 6) (v := .slice (some ⟨w.heap.size, 0, none⟩) k n) rfl (by kernel_rfl) (by kernel_rfl) (by kernel_rfl) (fun _ _ _ h => h) (yieldsIf_hiR (by rfl) _ _ rfl rfl rfl hk) hH ?_
      (try simp only [List.getElem_toArray, List.getElem_cons_zero, List.getElem_cons_succ, Act.put, List.setIfInBounds_toArray, List.set_cons_zero, List.set_cons_succ])
      refine wpAnyH_all (rs := [7]) (by kernel_rfl) (by simp) (fun i hi => ?_)
      obtain rfl : i = 7 := by simpa using hi
      refine wpOp_value _ (by rfl) (by kernel_rfl) (exec_copyR rfl rfl rfl hc3) ⟨trivial, ?_⟩
      clear hc3
      (try simp only [List.getElem_toArray, List.getElem_cons_zero, List.getElem_cons_succ, Act.put, List.setIfInBounds_toArray, List.set_cons_zero, List.set_cons_succ])
      refine wpAnyH_take (i := 8) (v := .int .i64 ((k + m : Nat) : Int)) rfl (by kernel_rfl) (by kernel_rfl) (by kernel_rfl) (fun _ _ _ h => h) (yieldsIf_addR (by rfl) _ _ rfl rfl rfl (by rw [IntKind.wrap_i64]; omega)) hH ?_
      (try simp only [List.getElem_toArray, List.getElem_cons_zero, List.getElem_cons_succ, Act.put, List.setIfInBounds_toArray, List.set_cons_zero, List.set_cons_succ])
      refine wpAnyH_take (i := 9) (v := .int .i64 ((k + m : Nat) : Int)) rfl (by kernel_rfl) (by kernel_rfl) (by kernel_rfl) (fun _ _ _ h => h) (.inl ⟨by rfl, fun _ _ => by kernel_rfl⟩) hH ?_
      (try simp only [List.getElem_toArray, List.getElem_cons_zero, List.getElem_cons_succ, Act.put, List.setIfInBounds_toArray, List.set_cons_zero, List.set_cons_succ])
      refine wpAnyH_done (by kernel_rfl) ?_ _
      go_wp2_with fail
      go_roundw
      case rel => exact ⟨k + m, by omega, by omega, by go_num, HF3, HB3⟩
      case measure => simp [intOf]; omega
    · have hkn : k = n := by omega
      subst hkn
      go_wp2
      go_ret
      exact ⟨rfl, HF.out.done hcs, HB.out⟩
end Go.Proofs.YtillmlaoppibfaaDoor
