/- Rows: structs of many cells, loaded and stored whole, as run equations. -/
import Derived.Test.YtillmlaoppibfaaDoorTch
import Derived.Deep.MidRow
import Derived.Deep.RegionHeld
namespace Go.Proofs.YtillmlaoppibfaaDoor
open Go.RowKit
/-- A struct that lies in the middle of a block, read. -/
theorem row_load_mid {P : Program} {w : World} {g t : Nat} {cs : Array Value} (h : Blk w g t cs) (o : Nat) (xs : Array Value) (hx : (cs.toList.drop o).take xs.size = xs.toList) {ty : TypeId} {d : TypeDesc}
    (hu : P.underlying ty = some d) (hd : d.isRow = true) (hi : (P.info? ty).map (·.size) = some xs.size) :
    (Instr.loadAt ty (.pointer (some ⟨g, o, none⟩))).run P w = .ok (.agg xs) w := by
  have := run_loadAt_mid (P := P) w g o ty xs.toList d (fun j v hv => by
    have hj : j < xs.toList.length := (List.getElem?_eq_some_iff.1 hv).1
    rw [h.cell, ← Array.getElem?_toList, ← hv, ← hx, List.getElem?_take, if_pos (by simpa using hj), List.getElem?_drop]) hu hd (by simpa using hi)
  simpa using this
theorem row_load {P : Program} {w : World} {g t : Nat} {cs : Array Value} (h : Blk w g t cs) {ty : TypeId} {d : TypeDesc}
    (hu : P.underlying ty = some d) (hd : d.isRow = true) (hi : (P.info? ty).map (·.size) = some cs.size) :
    (Instr.loadAt ty (.pointer (some ⟨g, 0, none⟩))).run P w = .ok (.agg cs) w :=
  row_load_mid h 0 cs (by rw [List.drop_zero, ← Array.length_toList, List.take_length]) hu hd hi
/-- A struct, stored whole. -/
theorem row_store {P : Program} {w : World} {g t : Nat} {cs : Array Value} (h : Blk w g t cs) (xs : Array Value) (hs : xs.size = cs.size) {ty : TypeId} (hi : (P.info? ty).map (·.size) = some xs.size) (h1 : xs.all (·.oneCell') = true) :
    (Instr.storeAt ty (.pointer (some ⟨g, 0, none⟩)) (.agg xs)).run P w = .ok () (w.setCells g 0 xs.toList) :=
  run_storeAt_mid w g 0 ty xs (fun j hj => ⟨by rw [Nat.zero_add, h.cell, Array.getElem?_eq_getElem (by omega)]; rfl, h.frozen _⟩) hi h1
theorem row_store_mid {P : Program} {w : World} {g t : Nat} {cs : Array Value} (h : Blk w g t cs) (o : Nat) (xs : Array Value) (hs : o + xs.size ≤ cs.size) {ty : TypeId} (hi : (P.info? ty).map (·.size) = some xs.size) (h1 : xs.all (·.oneCell') = true) :
    (Instr.storeAt ty (.pointer (some ⟨g, o, none⟩)) (.agg xs)).run P w = .ok () (w.setCells g o xs.toList) :=
  run_storeAt_mid w g o ty xs (fun j hj => ⟨by rw [h.cell, Array.getElem?_eq_getElem (by omega)]; rfl, h.frozen _⟩) hi h1
/-- A load, by its run equation, in a plain region. -/
theorem wpList_loadE {P : Program} {ops : Array Oper} {rest : List Oper} {op : Oper} {a : Act} {w : World} {Q : Exit → Act → World → Prop} {ty : TypeId} {p v : Value} (hr : (Instr.loadAt ty p).run P w = .ok v w) (x : Operand)
    (hgd : op.guard = none) (ho : op.op = .load ty x) (hx : a.eval x = p) (h : wpList P ops Q rest (a.put op.dst v) w) : wpList P ops Q (op :: rest) a w :=
  wpList_plain hgd fun _ hK => by
    unfold Oper.wp execOp
    simp only [ho, hx, Sem.run_bind, Result.andThen_ok, hr]
    exact hK _ _ h
/-- A load, by its run equation, under a guard that is met. -/
theorem wpList_loadG {P : Program} {ops : Array Oper} {rest : List Oper} {op : Oper} {a : Act} {w : World} {Q : Exit → Act → World → Prop} {ty : TypeId} {p v : Value} (hr : (Instr.loadAt ty p).run P w = .ok v w) (x : Operand)
    (hw : Region.wanted op (yielded ops a.tmps) = true) (ho : op.op = .load ty x) (hx : a.eval x = p) (h : wpList P ops Q rest (a.put op.dst v) w) : wpList P ops Q (op :: rest) a w :=
  wpList_step fun K hK => by
    rw [if_pos hw]
    unfold Oper.wp execOp
    simp only [ho, hx, Sem.run_bind, Result.andThen_ok, hr]
    exact hK _ _ h
/-- A store, by its run equation, in a plain region. -/
theorem wpList_storeE {P : Program} {ops : Array Oper} {rest : List Oper} {op : Oper} {a : Act} {w w' : World} {Q : Exit → Act → World → Prop} {ty : TypeId} {p v : Value} (hr : (Instr.storeAt ty p v).run P w = .ok () w') (x y : Operand)
    (hgd : op.guard = none) (ho : op.op = .store ty x y) (hx : a.eval x = p) (hy : a.eval y = v) (h : wpList P ops Q rest (a.put op.dst undef) w') : wpList P ops Q (op :: rest) a w :=
  wpList_plain hgd fun _ hK => by
    unfold Oper.wp execOp
    simp only [ho, hx, hy, Sem.run_bind, Result.andThen_ok, hr]
    exact hK _ _ h
/-- A store, by its run equation, as a step of a region that draws. -/
theorem step_storeE {P : Program} {ops : Array Oper} {op : Oper} {a : Act} {w w' : World} {K : Act → World → Prop} {Q : Exit → Act → World → Prop} {E : Prop} {ty : TypeId} {p v : Value} (hr : (Instr.storeAt ty p v).run P w = .ok () w') (x y : Operand)
    (hw : Region.wanted op (yielded ops a.tmps) = true) (ho : op.op = .store ty x y) (hx : a.eval x = p) (hy : a.eval y = v) (h : K (a.put op.dst undef) w') :
    if Region.wanted op (yielded ops a.tmps) = true then Oper.wp P op a w K Q else E := by
  rw [if_pos hw]
  unfold Oper.wp execOp
  simp only [ho, hx, hy, Sem.run_bind, Result.andThen_ok, hr]
  exact h
theorem step_loadE {P : Program} {ops : Array Oper} {op : Oper} {a : Act} {w : World} {K : Act → World → Prop} {Q : Exit → Act → World → Prop} {E : Prop} {ty : TypeId} {p v : Value} (hr : (Instr.loadAt ty p).run P w = .ok v w) (x : Operand)
    (hw : Region.wanted op (yielded ops a.tmps) = true) (ho : op.op = .load ty x) (hx : a.eval x = p) (h : K (a.put op.dst v) w) :
    if Region.wanted op (yielded ops a.tmps) = true then Oper.wp P op a w K Q else E := by
  rw [if_pos hw]
  unfold Oper.wp execOp
  simp only [ho, hx, Sem.run_bind, Result.andThen_ok, hr]
  exact h
/-- A struct, stored cell by cell into a block. -/
theorem blk_storeCells {P : Program} {w : World} {g t : Nat} {cs : Array Value} (h : Blk w g t cs) (xs : Array Value) (hs : xs.size = cs.size) (h1 : xs.all (·.oneCell') = true) :
    (storeCells ⟨g, 0, none⟩ xs.toList).run P w = .ok () (w.setCells g 0 xs.toList) := by
  have := run_storeCells_cells (P := P) g 0 xs.toList 0 w (fun j hj => by simp only [Nat.zero_add, Nat.add_zero]; rw [h.cell, Array.getElem?_eq_getElem (by have : j < xs.size := (by simpa using hj); omega)]; rfl) (fun j _ => h.frozen _)
    (fun v hv => (Array.all_eq_true_iff_forall_mem.1 h1) v (by simpa using hv))
  simpa using this
/-- Two structs and a temporary, returned. -/
theorem results_rows2 {P : Program} {fn : Func} {p q u : Tmp} {t1 t2 : TypeId} (h : fn.results = #[.cell p t1, .cell q t2, .tmp u]) (tmps : Array Value) {w : World} {g1 g2 : Nat} {c1 c2 : Array Value} {d1 d2 : TypeDesc}
    (hp : tmps.getD p undef = .pointer (some ⟨g1, 0, none⟩)) (hq : tmps.getD q undef = .pointer (some ⟨g2, 0, none⟩)) {u1 u2 : Nat} (b1 : Blk w g1 u1 c1) (b2 : Blk w g2 u2 c2)
    (hu1 : P.underlying t1 = some d1) (hd1 : (match d1 with | .struct _ | .array _ _ => true | _ => false) = true) (hi1 : (P.info? t1).map (·.size) = some c1.size)
    (hu2 : P.underlying t2 = some d2) (hd2 : (match d2 with | .struct _ | .array _ _ => true | _ => false) = true) (hi2 : (P.info? t2).map (·.size) = some c2.size) :
    (results fn tmps).run P w = .ok (.tuple #[.agg c1, .agg c2, tmps.getD u undef]) w := by
  have hp' : tmps[p]?.getD undef = .pointer (some ⟨g1, 0, none⟩) := by simpa using hp
  have hq' : tmps[q]?.getD undef = .pointer (some ⟨g2, 0, none⟩) := by simpa using hq
  simp [results, h, hp', hq', asAddr, run_loadVar_row w g1 u1 t1 c1 (0, 0) d1 b1 hu1 hd1 hi1, run_loadVar_row w g2 u2 t2 c2 (0, 0) d2 b2 hu2 hd2 hi2, Result.andThen]
/-- A block of n cells, writable. -/
theorem Blk.there {w : World} {g t : Nat} {cs : Array Value} (h : Blk w g t cs) : w.there g 0 cs.size := fun j hj => ⟨by rw [Nat.zero_add, h.cell, Array.getElem?_eq_getElem hj]; rfl, h.frozen _⟩
theorem Blk.range {w : World} {g t : Nat} {cs : Array Value} (h : Blk w g t cs) : w.rangeAt g 0 cs.toList := fun j v hv => by rw [Nat.zero_add, h.cell, ← Array.getElem?_toList, hv]
section
variable {P : Program} {ops : Array Oper} {Q : Exit → Act → World → Prop} {md : Region.Mode} {S : World → Prop} {fuel : Nat} {listed : Array Bool} {a : Act} {w w' : World} {o : Oper}
/-- In a region that draws: the one operation that may come up next is a store. -/
theorem wpAnyH_store (i : Nat) (ty : TypeId) (x y : Operand) (hr : Region.ready md ops listed = [i]) (ho : ops[i]? = some o) (hw : Region.wanted o (yielded ops a.tmps) = true) (hop : o.op = .store ty x y) {p v : Value} (hx : a.eval x = p) (hy : a.eval y = v)
    (hrun : (Instr.storeAt ty p v).run P w = .ok () w') (hS : S w') (h : wpAnyH P md ops Q S fuel (listed.setIfInBounds i true) (a.put o.dst undef) w') : wpAnyH P md ops Q S (fuel + 1) listed a w := by
  refine wpAnyH_ready hr (by simp) (AllReadyH.cons ho (fun K hK => ?_) AllReadyH.nil)
  rw [if_pos hw]
  unfold Oper.wp execOp
  simp only [hop, hx, hy, Sem.run_bind, Result.andThen_ok, hrun]
  exact hK.out _ _ hS (fun _ => h)
/-- .. is one that yields its value and leaves the world alone. -/
theorem wpAnyH_value (i : Nat) (v : Value) (hr : Region.ready md ops listed = [i]) (ho : ops[i]? = some o) (hw : Region.wanted o (yielded ops a.tmps) = true)
    (hrun : (execOp a.eval o).run P w = .ok (.value v) w) (hS : S w) (h : wpAnyH P md ops Q S fuel (listed.setIfInBounds i true) (a.put o.dst v) w) : wpAnyH P md ops Q S (fuel + 1) listed a w := by
  refine wpAnyH_ready hr (by simp) (AllReadyH.cons ho (fun K hK => ?_) AllReadyH.nil)
  rw [if_pos hw]
  unfold Oper.wp
  rw [hrun]
  exact hK.out _ _ hS (fun _ => h)
/-- .. is a call. -/
theorem wpAnyH_call (i : Nat) (f : FuncId) (args : Array Value) (R : Ending → World → Prop) (hr : Region.ready md ops listed = [i]) (ho : ops[i]? = some o) (hw : Region.wanted o (yielded ops a.tmps) = true)
    (hrun : (execOp a.eval o).run P w = .ok (.enter f args) w) (hc : Calls P f args w R)
    (h : ∀ e w', R e w' → ∃ v, e = .returned v ∧ S w' ∧ wpAnyH P md ops Q S fuel (listed.setIfInBounds i true) (a.put o.dst v) w') : wpAnyH P md ops Q S (fuel + 1) listed a w := by
  refine wpAnyH_ready hr (by simp) (AllReadyH.cons ho (fun K hK => ?_) AllReadyH.nil)
  rw [if_pos hw]
  unfold Oper.wp
  rw [hrun, Oper.upon_enter]
  refine hc.mono fun e w'' hh => ?_
  obtain ⟨v, rfl, hS, h'⟩ := h e w'' hh
  exact hK.out _ _ hS (fun _ => h')
end
section
variable {P : Program} {ops : Array Oper} {Q : Exit → Act → World → Prop} {a : Act} {w w' : World} {o : Oper} {K : Act → World → Prop}
/-- One of some that may come up: it yields. -/
theorem wpOp_value {i : Nat} (v : Value) (ho : ops[i]? = some o) (hw : Region.wanted o (yielded ops a.tmps) = true) (hrun : (execOp a.eval o).run P w = .ok (.value v) w') (h : K (a.put o.dst v) w') : wpOp P ops Q i K a w := by
  unfold wpOp
  simp only [ho]
  rw [if_pos hw]
  refine .inl ?_
  unfold Oper.wp
  rw [hrun]
  exact h
/-- .. it calls. -/
theorem wpOp_call {i : Nat} (f : FuncId) (args : Array Value) (R : Ending → World → Prop) (ho : ops[i]? = some o) (hw : Region.wanted o (yielded ops a.tmps) = true)
    (hrun : (execOp a.eval o).run P w = .ok (.enter f args) w) (hc : Calls P f args w R) (h : ∀ e w', R e w' → ∃ v, e = .returned v ∧ K (a.put o.dst v) w') : wpOp P ops Q i K a w := by
  unfold wpOp
  simp only [ho]
  rw [if_pos hw]
  refine .inl ?_
  unfold Oper.wp
  rw [hrun, Oper.upon_enter]
  refine hc.mono fun e w'' hh => ?_
  obtain ⟨v, rfl, h'⟩ := h e w'' hh
  exact h'
/-- .. it stores. -/
theorem wpOp_store {i : Nat} {ty : TypeId} (x y : Operand) (ho : ops[i]? = some o) (hw : Region.wanted o (yielded ops a.tmps) = true) (hop : o.op = .store ty x y) {p v : Value} (hx : a.eval x = p) (hy : a.eval y = v)
    (hrun : (Instr.storeAt ty p v).run P w = .ok () w') (h : K (a.put o.dst undef) w') : wpOp P ops Q i K a w := by
  unfold wpOp
  simp only [ho]
  rw [if_pos hw]
  refine .inl ?_
  unfold Oper.wp execOp
  simp only [hop, hx, hy, Sem.run_bind, Result.andThen_ok, hrun]
  exact h
end
/-- An operation whose guard is met, as one without. -/
theorem wpList_unguard {P : Program} {ops : Array Oper} {rest : List Oper} {o : Oper} {a : Act} {w : World} {Q : Exit → Act → World → Prop} (hw : Region.wanted o (yielded ops a.tmps) = true)
    (h : wpList P ops Q ({ o with guard := none } :: rest) a w) : wpList P ops Q (o :: rest) a w := by
  unfold wpList at h ⊢
  rw [if_pos hw]
  rw [if_pos (by simp [Region.wanted])] at h
  exact h
end Go.Proofs.YtillmlaoppibfaaDoor
