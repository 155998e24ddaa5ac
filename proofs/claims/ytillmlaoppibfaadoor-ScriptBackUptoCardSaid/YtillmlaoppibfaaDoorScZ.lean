/- Scripts: a call's line, written. (Printed by tools/genScZ.py.) -/
import Derived.Test.YtillmlaoppibfaaDoorScY
import Derived.Test.YtillmlaoppibfaaDoorScD
import Derived.Test.YtillmlaoppibfaaDoorScC
import Derived.Great.BuildSlice
namespace Go.Proofs.YtillmlaoppibfaaDoor
open Go.RowKit Go.Sort
/-- A line, without its end. -/
def lineN (g : SAct × Nat) : List UInt8 :=
  if g.1.kd = 1 then wordN 1 ++ tailW [g.1.wk.toNat, g.1.id, g.1.tg, g.1.dr] ++ tailZ g.1.vec
  else if g.1.kd = 4 then wordN 4 ++ tailW [g.1.wk.toNat, g.1.tg, g.1.k.toNat, g.1.ef.toNat] ++ tailZ g.1.vec
  else if g.1.kd = 2 ∨ g.1.kd = 3 then wordN g.1.kd ++ tailW [g.1.wk.toNat, g.1.id]
  else if g.1.kd = 5 ∨ g.1.kd = 6 then wordN g.1.kd ++ tailW [g.1.wk.toNat]
  else pickW ++ tailW [g.1.wk.toNat, g.2]
theorem sc_within (x : Int) (w : World) :
    Calls Tryd.prog 25 #[.int .i64 x] w fun e w' => e = .returned (.bool (decide (0 ≤ x) && decide (x ≤ 4096))) ∧ w' = w := by
  by_cases h1 : 0 ≤ x
  · by_cases h2 : x ≤ 4096
    · rw [decide_eq_true h1, decide_eq_true h2]
      go_enter Tryd.func25, Tryd.ntmps25
      go_wp2
      go_ret
      exact ⟨rfl, rfl⟩
    · rw [decide_eq_true h1, decide_eq_false h2]
      go_enter Tryd.func25, Tryd.ntmps25
      go_wp2
      go_ret
      exact ⟨rfl, rfl⟩
  · rw [decide_eq_false h1]
    go_enter Tryd.func25, Tryd.ntmps25
    go_wp2
    go_ret
    exact ⟨rfl, rfl⟩
theorem stZ {P : Program} {W : World} {g t i : Nat} {cs : Array Value} {v : Value} {ty : TypeId} (h : Blk W g t cs) (hi : i < cs.size) (hr : ∀ W : World, W.frozen? ⟨g, i, none⟩ = false → W.cell? ⟨g, i, none⟩ = some cs[i] → (Instr.storeAt ty (.pointer (some ⟨g, i, none⟩)) v).run P W = .ok () (W.setCell ⟨g, i, none⟩ v)) :
    ∃ W', (Instr.storeAt ty (.pointer (some ⟨g, i, none⟩)) v).run P W = .ok () W' ∧ Blk W' g t (cs.setIfInBounds i v) ∧ W.grownBy W' (some g) :=
  ⟨_, hr W (h.frozen i) (by rw [h.cell, Array.getElem?_eq_getElem hi]), h.set_ i v, only_setCell (World.grownBy.refl W _) i v⟩
theorem stZ_u64 {g i : Nat} {z : Int} {c : Value} (W : World) (h1 : W.frozen? ⟨g, i, none⟩ = false) (h2 : W.cell? ⟨g, i, none⟩ = some c) : (Instr.storeAt 33 (.pointer (some ⟨g, i, none⟩)) (.int .u64 z)).run Tryd.prog W = .ok () (W.setCell ⟨g, i, none⟩ (.int .u64 z)) := by
  simp [go_sem, h1, h2]
theorem stZ_int {g i : Nat} {z : Int} {c : Value} (W : World) (h1 : W.frozen? ⟨g, i, none⟩ = false) (h2 : W.cell? ⟨g, i, none⟩ = some c) : (Instr.storeAt 3 (.pointer (some ⟨g, i, none⟩)) (.int .i64 z)).run Tryd.prog W = .ok () (W.setCell ⟨g, i, none⟩ (.int .i64 z)) := by
  simp [go_sem, h1, h2]
theorem stZ_vec {g i : Nat} {A : Option Addr} {n m : Nat} {c : Value} (W : World) (h1 : W.frozen? ⟨g, i, none⟩ = false) (h2 : W.cell? ⟨g, i, none⟩ = some c) : (Instr.storeAt 34 (.pointer (some ⟨g, i, none⟩)) (.slice A n m)).run Tryd.prog W = .ok () (W.setCell ⟨g, i, none⟩ (.slice A n m)) := by
  simp [go_sem, h1, h2]
theorem stZ_item {W : World} {g : Nat} {v0 v1 v2 v3 v4 v5 v6 : Value} {i t : Int} {V : Option Addr} {n c : Nat} (h : Blk W g 38 #[v0, v1, v2, v3, v4, v5, v6]) :
    ∃ W', (Instr.storeAt 36 (.pointer (some ⟨g, 1, none⟩)) (.agg #[.int .u64 i, .slice V n c, .int .u64 t])).run Tryd.prog W = .ok () W' ∧ Blk W' g 38 #[v0, .int .u64 i, .slice V n c, .int .u64 t, v4, v5, v6] ∧ W.grownBy W' (some g) :=
  ⟨_, row_store_mid h 1 #[.int .u64 i, .slice V n c, .int .u64 t] (show 1 + 3 ≤ 7 by omega) (by kernel_rfl) (by simp [Value.oneCell']), ((h.set_ 1 _).set_ 2 _).set_ 3 _, only_setCell (only_setCell (only_setCell (World.grownBy.refl W _) 1 _) 2 _) 3 _⟩
theorem loadZ_item {W : World} {g : Nat} {v0 v1 v2 v3 v4 v5 v6 : Value} (h : Blk W g 38 #[v0, v1, v2, v3, v4, v5, v6]) :
    (Instr.loadAt 36 (.pointer (some ⟨g, 1, none⟩))).run Tryd.prog W = .ok (.agg #[v1, v2, v3]) W :=
  row_load_mid h 1 #[v1, v2, v3] rfl Tryd.underlying36 rfl (by kernel_rfl)
theorem loadZ_u64 {W : World} {g o : Nat} {z : Int} (h : W.cell? ⟨g, o, none⟩ = some (.int .u64 z)) : (Instr.loadAt 33 (.pointer (some ⟨g, o, none⟩))).run Tryd.prog W = .ok (.int .u64 z) W := by
  simp [go_sem, h]
theorem loadZ_vec {W : World} {g o : Nat} {A : Option Addr} {n c : Nat} (h : W.cell? ⟨g, o, none⟩ = some (.slice A n c)) : (Instr.loadAt 34 (.pointer (some ⟨g, o, none⟩))).run Tryd.prog W = .ok (.slice A n c) W := by
  simp [go_sem, h]
/-- The block of the call that is handed over, the block of what is told, at the call's beginning. -/
theorem two_boxes (w : World) (cs ds : Array Value) : ∃ W, (w.alloc (.cells cs 38)).alloc (.cells ds 38) = W ∧ Blk W w.heap.size 38 cs ∧ Blk W (w.heap.size + 1) 38 ds ∧ Below w.heap.size w W ∧ W.heap.size = w.heap.size + 2 := by
  refine ⟨_, rfl, (Blk.new w _ _).alloc _, ?_, (bel_boxX w _).trans ((bel_boxX _ _).mono (bel_boxX w _).size), by rw [alloc_sizeX, alloc_sizeX]⟩
  have := Blk.new (w.alloc (.cells cs 38)) 38 ds
  rwa [alloc_sizeX] at this
theorem info_u64z : (Tryd.prog.info? 33).map (fun i => (i.zero, i.size, i.bytes)) = some (some (.int .u64 0), 1, 8) := by kernel_rfl
theorem run_us4 (w : World) (a b c d : Int) : (Instr.buildSlice 63 4 #[(0, .int .u64 a), (1, .int .u64 b), (2, .int .u64 c), (3, .int .u64 d)]).run Tryd.prog w = .ok (.slice (some ⟨w.heap.size, 0, none⟩) 4 4) (w.alloc (.cells #[.int .u64 a, .int .u64 b, .int .u64 c, .int .u64 d] 33)) := by
  obtain ⟨i, hi, hz, hz1, hz2⟩ := info_parts info_u64z
  refine Go.run_buildSlice w _ _ 4 _ _ i (.int .u64 0) Tryd.underlying63 hi hz (by rw [hz1]; decide) (by rw [hz1]; decide) ?_
  rw [hz1]; kernel_rfl
theorem run_us2 (w : World) (a b : Int) : (Instr.buildSlice 63 2 #[(0, .int .u64 a), (1, .int .u64 b)]).run Tryd.prog w = .ok (.slice (some ⟨w.heap.size, 0, none⟩) 2 2) (w.alloc (.cells #[.int .u64 a, .int .u64 b] 33)) := by
  obtain ⟨i, hi, hz, hz1, hz2⟩ := info_parts info_u64z
  refine Go.run_buildSlice w _ _ 2 _ _ i (.int .u64 0) Tryd.underlying63 hi hz (by rw [hz1]; decide) (by rw [hz1]; decide) ?_
  rw [hz1]; kernel_rfl
theorem row_blk (W : World) (us : List Nat) : Blk (W.alloc (.cells (us.map fun u : Nat => Value.int .u64 (u : Int)).toArray 33)) W.heap.size 33 (us.map fun u : Nat => Value.int .u64 (u : Int)).toArray := Blk.new _ _ _
theorem wordN_len (k : Int) : (wordN k).length ≤ 6 := by
  unfold wordN
  repeat' split
  all_goals decide
theorem bsO_word (k : Int) : bsO (wordN k) = ⟨(wordN k).toArray⟩ := rfl
theorem callZ_blk {W : World} {g : Nat} {xs : Array Value} (h : Blk W g 38 xs) (hs : xs.size = 7) : (Instr.loadAt 38 (.pointer (some ⟨g, 0, none⟩))).run Tryd.prog W = .ok (.agg xs) W :=
  row_load h Tryd.underlying38 rfl (by rw [hs]; kernel_rfl)
theorem undrewZ {w w' : World} {r : Option Nat} (h : w.drew.grownBy w' r) : w.grownBy w' r := ⟨h.os, h.tape, h.output, h.size, h.block⟩
theorem wpOp_build {P : Program} {ops : Array Oper} {Q : Exit → Act → World → Prop} {a : Act} {w w' : World} {o : Oper} {K : Act → World → Prop} {i n : Nat} {T : TypeId} {ps : Array (Nat × Operand)} {qs : Array (Nat × Value)} {v : Value} (ho : ops[i]? = some o) (hw : Region.wanted o (yielded ops a.tmps) = true)
    (hop : o.op = .buildSlice T n ps) (hq : (ps.map fun x => (x.1, a.eval x.2)) = qs) (hrun : (Instr.buildSlice T n qs).run P w = .ok v w') (h : K (a.put o.dst v) w') : wpOp P ops Q i K a w := by
  refine wpOp_value v ho hw ?_ h
  unfold execOp
  simp only [hop]
  have hq' : (ps.map fun x => (x.fst, a.eval x.snd)) = qs := hq
  rw [Sem.run_bind]
  first
    | rw [hq', hrun]
    | (simp only [hq', hrun])
  rfl
theorem bel_drewZ (w : World) (o : Obj) : Below w.heap.size w (w.drew.alloc o) := (below_drewN (Below.refl _ w) 1).alloc (Nat.le_refl _) _
theorem BwU.below {w w' : World} {B b : Nat} {l : List UInt8} (h : BwU w B b l) (hb : Below w.heap.size w w') : BwU w' B b l := by
  obtain ⟨h1, v, h2, h3, h4⟩ := h
  have hlt : b < w.heap.size := by
    rcases Nat.lt_or_ge b w.heap.size with q | q
    · exact q
    · rw [Array.getElem?_eq_none q] at h2; cases h2
  refine ⟨h1, v, (hb.block b hlt).trans h2, ⟨h3.1, ?_⟩, h4⟩
  rcases h3.2 with q | ⟨g, cap, cur, fz, e, hg, hh, r⟩
  · exact .inl q
  · have hgl : g < w.heap.size := by
      rcases Nat.lt_or_ge g w.heap.size with q | q
      · exact q
      · rw [Array.getElem?_eq_none q] at hh; cases hh
    exact .inr ⟨g, cap, cur, fz, e, hg, (hb.block g hgl).trans hh, r⟩
theorem form1 (u : Nat) (id : Nat) (vec : List Int) (tg : Nat) (k ef : Int) (dr : Nat) : formB ⟨u, 1, id, vec, tg, k, ef, dr⟩ = (plainB ⟨u, 1, id, vec, tg, 0, 0, dr⟩ ⟨u, 1, id, vec, tg, k, ef, dr⟩ && (decide (0 ≤ k) && decide (k ≤ 4096)) && (decide (0 ≤ ef) && decide (ef ≤ 4096))) := by
  rw [Bool.eq_iff_iff]
  simp [formB, plainB, sameB]
  omega
theorem form4 (u : Nat) (id : Nat) (vec : List Int) (tg : Nat) (k ef : Int) (dr : Nat) : formB ⟨u, 4, id, vec, tg, k, ef, dr⟩ = (plainB ⟨u, 4, 0, vec, tg, k, ef, 0⟩ ⟨u, 4, id, vec, tg, k, ef, dr⟩ && (decide (0 ≤ k) && decide (k ≤ 4096)) && (decide (0 ≤ ef) && decide (ef ≤ 4096))) := by
  rw [Bool.eq_iff_iff]
  simp [formB, plainB, sameB]
  omega
theorem form2 (u : Nat) (id : Nat) (vec : List Int) (tg : Nat) (k ef : Int) (dr : Nat) : formB ⟨u, 2, id, vec, tg, k, ef, dr⟩ = (plainB ⟨u, 2, id, [], 0, 0, 0, 0⟩ ⟨u, 2, id, vec, tg, k, ef, dr⟩ && (decide (0 ≤ k) && decide (k ≤ 4096)) && (decide (0 ≤ ef) && decide (ef ≤ 4096))) := by
  rw [Bool.eq_iff_iff]
  by_cases hv : vec = []
  · subst hv
    simp [formB, plainB, sameB]
    omega
  · have : ¬ ([] : List Int) = vec := fun e => hv e.symm
    simp [formB, plainB, sameB, hv, this]
theorem form3 (u : Nat) (id : Nat) (vec : List Int) (tg : Nat) (k ef : Int) (dr : Nat) : formB ⟨u, 3, id, vec, tg, k, ef, dr⟩ = (plainB ⟨u, 3, id, [], 0, 0, 0, 0⟩ ⟨u, 3, id, vec, tg, k, ef, dr⟩ && (decide (0 ≤ k) && decide (k ≤ 4096)) && (decide (0 ≤ ef) && decide (ef ≤ 4096))) := by
  rw [Bool.eq_iff_iff]
  by_cases hv : vec = []
  · subst hv
    simp [formB, plainB, sameB]
    omega
  · have : ¬ ([] : List Int) = vec := fun e => hv e.symm
    simp [formB, plainB, sameB, hv, this]
theorem form5 (u : Nat) (id : Nat) (vec : List Int) (tg : Nat) (k ef : Int) (dr : Nat) : formB ⟨u, 5, id, vec, tg, k, ef, dr⟩ = (plainB ⟨u, 5, 0, [], 0, 0, 0, 0⟩ ⟨u, 5, id, vec, tg, k, ef, dr⟩ && (decide (0 ≤ k) && decide (k ≤ 4096)) && (decide (0 ≤ ef) && decide (ef ≤ 4096))) := by
  rw [Bool.eq_iff_iff]
  by_cases hv : vec = []
  · subst hv
    simp [formB, plainB, sameB]
    omega
  · have : ¬ ([] : List Int) = vec := fun e => hv e.symm
    simp [formB, plainB, sameB, hv, this]
theorem form6 (u : Nat) (id : Nat) (vec : List Int) (tg : Nat) (k ef : Int) (dr : Nat) : formB ⟨u, 6, id, vec, tg, k, ef, dr⟩ = (plainB ⟨u, 6, 0, [], 0, 0, 0, 0⟩ ⟨u, 6, id, vec, tg, k, ef, dr⟩ && (decide (0 ≤ k) && decide (k ≤ 4096)) && (decide (0 ≤ ef) && decide (ef ≤ 4096))) := by
  rw [Bool.eq_iff_iff]
  by_cases hv : vec = []
  · subst hv
    simp [formB, plainB, sameB]
    omega
  · have : ¬ ([] : List Int) = vec := fun e => hv e.symm
    simp [formB, plainB, sameB, hv, this]
set_option maxHeartbeats 16000000 in
set_option maxRecDepth 100000 in
theorem bw_call1 (B b : Nat) (acc : List UInt8) (a : SAct) (hk : a.kd = 1) (V : Option Addr) (vn vc : Nat) (w : World) (he : Env w) (hB8 : 8 ≤ B) (hBw : B ≤ w.heap.size) (h : BwS w B b acc) (hr : Rd w B V vn (a.vec.map (.int .i32))) (hrng : a.Rng) (u : Nat) (hwk : a.wk = u) (hu64 : u ≤ 64) (hvn : vn ≤ 1048576) (hlen : acc.length ≤ 109951162777) :
    Calls Tryd.prog 12 #[.pointer (some ⟨b, 0, none⟩), .int .u64 u, .agg (callC a V vn vc)] w fun e w' => e = .returned (.bool (formB a)) ∧ BwF B b w w' ∧ (formB a = true → BwU w' B b (acc ++ lineN (a, 1) ++ [10])) := by
  obtain ⟨wk, kd, id, vec, tg, k, ef, dr⟩ := a
  simp only at hk hr hwk
  subst hk
  subst hwk
  unfold callC
  simp only
  obtain ⟨r1, r2, r3, r4⟩ := hrng
  simp only at r1 r2 r3 r4
  have HBw0 := Lib.hid hBw
  have HE := Lib.hid he
  have HR := Lib.hid hr
  have HBW := Lib.hid h
  have HR4 := Lib.hid r4
  have HVN := Lib.hid hr.lenI
  have HUS : Hid (∀ x ∈ ([u, id, tg, dr] : List Nat), x < 18446744073709551616) := by
    show ∀ x ∈ ([u, id, tg, dr] : List Nat), x < 18446744073709551616
    skip
    skip
    intro x hx
    simp only [List.mem_cons, List.not_mem_nil, or_false] at hx
    rcases hx with rfl | rfl | rfl | rfl <;> omega
  obtain ⟨W2, hW2, KC, KT, HB, hsz⟩ := two_boxes w #[.int .i64 1, .int .u64 id, .slice V vn vc, .int .u64 tg, .int .i64 k, .int .i64 ef, .int .u64 dr] #[.int .i64 1, .int .u64 0, .slice none 0 0, .int .u64 0, .int .i64 0, .int .i64 0, .int .u64 0]
  have HKC := Lib.hid KC
  have HKT := Lib.hid KT
  have HBL := Lib.hid HB
  have HSZ := Lib.hid hsz
  have HW2 := Lib.hid hW2
  clear KC KT HB hsz hW2 r1 r2 r3 r4 he hr h
  go_enter Tryd.func12, Tryd.ntmps12
  go_wp2_with fail
  rw [HW2.out]
  clear HW2
  refine wp_region_held_drew (S := fun W => Blk W w.heap.size 38 #[.int .i64 1, .int .u64 id, .slice V vn vc, .int .u64 tg, .int .i64 k, .int .i64 ef, .int .u64 dr]) (by kernel_rfl) HKC.out (fun hH => ?_)
  refine wpAnyH_take (i := 0) (v := .pointer (some ⟨w.heap.size, 1, none⟩)) rfl (by kernel_rfl) (by kernel_rfl) (by kernel_rfl) (fun _ _ _ h => h) (.inl ⟨by rfl, fun _ _ => by kernel_rfl⟩) hH ?_
  (try simp only [List.getElem_toArray, List.getElem_cons_zero, Act.put, List.setIfInBounds_toArray, List.set_cons_zero, List.set_cons_succ])
  refine wpAnyH_take (i := 1) (v := .agg #[.int .u64 id, .slice V vn vc, .int .u64 tg]) rfl (by kernel_rfl) (by kernel_rfl) (by kernel_rfl) (fun _ _ _ h => h) (yieldsIf_loadP (by rfl) _ rfl rfl (fun _ q => loadZ_item q)) hH ?_
  (try simp only [List.getElem_toArray, List.getElem_cons_zero, List.getElem_cons_succ, Act.put, List.setIfInBounds_toArray, List.set_cons_zero, List.set_cons_succ])
  refine wpAnyH_take (i := 2) (v := .pointer (some ⟨w.heap.size, 6, none⟩)) rfl (by kernel_rfl) (by kernel_rfl) (by kernel_rfl) (fun _ _ _ h => h) (.inl ⟨by rfl, fun _ _ => by kernel_rfl⟩) hH ?_
  (try simp only [List.getElem_toArray, List.getElem_cons_zero, List.getElem_cons_succ, Act.put, List.setIfInBounds_toArray, List.set_cons_zero, List.set_cons_succ])
  refine wpAnyH_take (i := 3) (v := .int .u64 dr) rfl (by kernel_rfl) (by kernel_rfl) (by kernel_rfl) (fun _ _ _ h => h) (yieldsIf_loadP (by rfl) _ rfl rfl (fun _ q => loadZ_u64 (q.cell 6))) hH ?_
  (try simp only [List.getElem_toArray, List.getElem_cons_zero, List.getElem_cons_succ, Act.put, List.setIfInBounds_toArray, List.set_cons_zero, List.set_cons_succ])
  refine wpAnyH_take (i := 4) (v := .pointer (some ⟨(w.heap.size + 1), 1, none⟩)) rfl (by kernel_rfl) (by kernel_rfl) (by kernel_rfl) (fun _ _ _ h => h) (.inl ⟨by rfl, fun _ _ => by kernel_rfl⟩) hH ?_
  (try simp only [List.getElem_toArray, List.getElem_cons_zero, List.getElem_cons_succ, Act.put, List.setIfInBounds_toArray, List.set_cons_zero, List.set_cons_succ])
  obtain ⟨W3, hst, hT3, hg3⟩ := stZ_item (W := W2.drew) (g := w.heap.size + 1) (i := id) (t := tg) (V := V) (n := vn) (c := vc) HKT.out
  have hC3 := hH.grown hg3 (fun e => by injection e with e; omega)
  refine wpAnyH_store 5 _ _ _ (by kernel_rfl) (by rfl) (by kernel_rfl) (by rfl) (by rfl) (by rfl) hst hC3 ?_
  (try simp only [List.getElem_toArray, List.getElem_cons_zero, List.getElem_cons_succ, Act.put])
  refine wpAnyH_take (i := 6) (v := .pointer (some ⟨(w.heap.size + 1), 6, none⟩)) rfl (by kernel_rfl) (by kernel_rfl) (by kernel_rfl) (fun _ _ _ h => h) (.inl ⟨by rfl, fun _ _ => by kernel_rfl⟩) hC3 ?_
  (try simp only [List.getElem_toArray, List.getElem_cons_zero, List.getElem_cons_succ, Act.put, List.setIfInBounds_toArray, List.set_cons_zero, List.set_cons_succ])
  obtain ⟨W4, hst4, hT4, hg4⟩ := stZ (i := 6) (ty := 33) (v := .int .u64 dr) (P := Tryd.prog) hT3 (show 6 < 7 by omega) (fun W h1 h2 => stZ_u64 W h1 h2)
  have hC4 := hC3.grown hg4 (fun e => by injection e with e; omega)
  refine wpAnyH_store 7 _ _ _ (by kernel_rfl) (by rfl) (by kernel_rfl) (by rfl) (by rfl) (by rfl) hst4 hC4 ?_
  (try simp only [List.getElem_toArray, List.getElem_cons_zero, List.getElem_cons_succ, Act.put])
  refine wpAnyH_done (by kernel_rfl) ?_ _
  have hG4 : W2.grownBy W4 (some (w.heap.size + 1)) := World.grownBy.trans (b := W3) (undrewZ hg3) hg4
  clear hst hst4 hT3 hg3 hC3 hg4 hH
  have HKC4 : Hid (Blk W4 w.heap.size 38 #[.int .i64 1, .int .u64 id, .slice V vn vc, .int .u64 tg, .int .i64 k, .int .i64 ef, .int .u64 dr]) := hC4
  have HKT4 : Hid (Blk W4 (w.heap.size + 1) 38 #[.int .i64 1, .int .u64 id, .slice V vn vc, .int .u64 tg, .int .i64 0, .int .i64 0, .int .u64 dr]) := hT4
  have HB4 : Hid (Below w.heap.size w W4) := (HBL.out.trans (below_of_only hG4 (by have := HSZ.out; omega) (by omega)))
  have HSZ4 : Hid (w.heap.size + 2 ≤ W4.heap.size) := by show _ ≤ _; have h1 := HSZ.out; have h2 := hG4.size; omega
  clear hC4 hT4 hG4 HKC HKT HBL HSZ
  go_wp2_with fail
  have HWD : Hid (Calls Tryd.prog 9 #[.pointer (some ⟨b, 0, none⟩), .string (bsO (wordN 1)), .slice (some ⟨W4.heap.size, 0, none⟩) 4 4] (W4.drew.alloc (.cells #[.int .u64 u, .int .u64 id, .int .u64 tg, .int .u64 dr] 33)) fun e w' => e = .returned (.tuple #[]) ∧ BwU w' B b (acc ++ wordN 1 ++ tailW [u, id, tg, dr]) ∧ BwF B b (W4.drew.alloc (.cells #[.int .u64 u, .int .u64 id, .int .u64 tg, .int .u64 dr] 33)) w') := by
    have hw := wordN_len 1
    have hb := (HBW.out.below HB4.out)
    have hlt := hb.lt
    refine bw_word B b W4.heap.size acc (wordN 1) [u, id, tg, dr] 4 4 rfl _ (HE.out.on (HB4.out.trans ((bel_drewZ W4 _).mono HB4.out.size))) hB8 (by have := HB4.out.size; rw [alloc_sizeX]; show B ≤ W4.heap.size + 1; omega) (hb.below (bel_drewZ W4 _)) (row_blk W4.drew [u, id, tg, dr]) (by omega) HUS.out (by omega) (by omega)
  refine wp_region_held_drew (S := fun W => Blk W w.heap.size 38 #[.int .i64 1, .int .u64 id, .slice V vn vc, .int .u64 tg, .int .i64 k, .int .i64 ef, .int .u64 dr]) (by kernel_rfl) HKC4.out (fun hH => ?_)
  refine wpAnyH_take (i := 0) (v := .pointer (some ⟨b, 0, none⟩)) rfl (by kernel_rfl) (by kernel_rfl) (by kernel_rfl) (fun _ _ _ h => h) (.inl ⟨by rfl, fun _ _ => by kernel_rfl⟩) hH ?_
  (try simp only [List.getElem_toArray, List.getElem_cons_zero, Act.put, List.setIfInBounds_toArray, List.set_cons_zero, List.set_cons_succ])
  refine wpAnyH_take (i := 1) (v := .pointer (some ⟨w.heap.size, 0, none⟩)) rfl (by kernel_rfl) (by kernel_rfl) (by kernel_rfl) (fun _ _ _ h => h) (.inl ⟨by rfl, fun _ _ => by kernel_rfl⟩) hH ?_
  (try simp only [List.getElem_toArray, List.getElem_cons_zero, List.getElem_cons_succ, Act.put, List.setIfInBounds_toArray, List.set_cons_zero, List.set_cons_succ])
  refine wpAnyH_take (i := 2) (v := .int .i64 1) rfl (by kernel_rfl) (by kernel_rfl) (by kernel_rfl) (fun _ _ _ h => h) (yieldsIf_loadP (by rfl) _ rfl rfl (fun _ q => loadY_int (q.cell 0))) hH ?_
  (try simp only [List.getElem_toArray, List.getElem_cons_zero, List.getElem_cons_succ, Act.put, List.setIfInBounds_toArray, List.set_cons_zero, List.set_cons_succ])
  refine wpAnyH_take (i := 4) (v := .int .u64 u) rfl (by kernel_rfl) (by kernel_rfl) (by kernel_rfl) (fun _ _ _ h => h) (.inl ⟨by rfl, fun _ _ => by kernel_rfl⟩) hH ?_
  (try simp only [List.getElem_toArray, List.getElem_cons_zero, List.getElem_cons_succ, Act.put, List.setIfInBounds_toArray, List.set_cons_zero, List.set_cons_succ])
  refine wpAnyH_take (i := 5) (v := .pointer (some ⟨w.heap.size, 1, none⟩)) rfl (by kernel_rfl) (by kernel_rfl) (by kernel_rfl) (fun _ _ _ h => h) (.inl ⟨by rfl, fun _ _ => by kernel_rfl⟩) hH ?_
  (try simp only [List.getElem_toArray, List.getElem_cons_zero, List.getElem_cons_succ, Act.put, List.setIfInBounds_toArray, List.set_cons_zero, List.set_cons_succ])
  refine wpAnyH_take (i := 6) (v := .pointer (some ⟨w.heap.size, 1, none⟩)) rfl (by kernel_rfl) (by kernel_rfl) (by kernel_rfl) (fun _ _ _ h => h) (.inl ⟨by rfl, fun _ _ => by kernel_rfl⟩) hH ?_
  (try simp only [List.getElem_toArray, List.getElem_cons_zero, List.getElem_cons_succ, Act.put, List.setIfInBounds_toArray, List.set_cons_zero, List.set_cons_succ])
  refine wpAnyH_take (i := 7) (v := .int .u64 id) rfl (by kernel_rfl) (by kernel_rfl) (by kernel_rfl) (fun _ _ _ h => h) (yieldsIf_loadP (by rfl) _ rfl rfl (fun _ q => loadZ_u64 (q.cell 1))) hH ?_
  (try simp only [List.getElem_toArray, List.getElem_cons_zero, List.getElem_cons_succ, Act.put, List.setIfInBounds_toArray, List.set_cons_zero, List.set_cons_succ])
  refine wpAnyH_take (i := 8) (v := .pointer (some ⟨w.heap.size, 1, none⟩)) rfl (by kernel_rfl) (by kernel_rfl) (by kernel_rfl) (fun _ _ _ h => h) (.inl ⟨by rfl, fun _ _ => by kernel_rfl⟩) hH ?_
  (try simp only [List.getElem_toArray, List.getElem_cons_zero, List.getElem_cons_succ, Act.put, List.setIfInBounds_toArray, List.set_cons_zero, List.set_cons_succ])
  refine wpAnyH_take (i := 9) (v := .pointer (some ⟨w.heap.size, 3, none⟩)) rfl (by kernel_rfl) (by kernel_rfl) (by kernel_rfl) (fun _ _ _ h => h) (.inl ⟨by rfl, fun _ _ => by kernel_rfl⟩) hH ?_
  (try simp only [List.getElem_toArray, List.getElem_cons_zero, List.getElem_cons_succ, Act.put, List.setIfInBounds_toArray, List.set_cons_zero, List.set_cons_succ])
  refine wpAnyH_take (i := 10) (v := .int .u64 tg) rfl (by kernel_rfl) (by kernel_rfl) (by kernel_rfl) (fun _ _ _ h => h) (yieldsIf_loadP (by rfl) _ rfl rfl (fun _ q => loadZ_u64 (q.cell 3))) hH ?_
  (try simp only [List.getElem_toArray, List.getElem_cons_zero, List.getElem_cons_succ, Act.put, List.setIfInBounds_toArray, List.set_cons_zero, List.set_cons_succ])
  refine wpAnyH_take (i := 11) (v := .pointer (some ⟨w.heap.size, 6, none⟩)) rfl (by kernel_rfl) (by kernel_rfl) (by kernel_rfl) (fun _ _ _ h => h) (.inl ⟨by rfl, fun _ _ => by kernel_rfl⟩) hH ?_
  (try simp only [List.getElem_toArray, List.getElem_cons_zero, List.getElem_cons_succ, Act.put, List.setIfInBounds_toArray, List.set_cons_zero, List.set_cons_succ])
  refine wpAnyH_take (i := 12) (v := .int .u64 dr) rfl (by kernel_rfl) (by kernel_rfl) (by kernel_rfl) (fun _ _ _ h => h) (yieldsIf_loadP (by rfl) _ rfl rfl (fun _ q => loadZ_u64 (q.cell 6))) hH ?_
  (try simp only [List.getElem_toArray, List.getElem_cons_zero, List.getElem_cons_succ, Act.put, List.setIfInBounds_toArray, List.set_cons_zero, List.set_cons_succ])
  refine wpAnyH_all (rs := [3, 13]) (by kernel_rfl) (by simp) (fun i hi => ?_)
  rcases (by simpa using hi : i = 3 ∨ i = 13) with rfl | rfl
  · refine wpOp_call 24 #[.int .i64 1] _ (by rfl) (by kernel_rfl) (by kernel_rfl) (sc_name 1 _) ?_
    rintro e w' ⟨rfl, rfl⟩
    refine ⟨_, rfl, hH, ?_⟩
    (try simp only [List.getElem_toArray, List.getElem_cons_zero, List.getElem_cons_succ, Act.put, List.setIfInBounds_toArray, List.set_cons_zero, List.set_cons_succ])
    refine wpAnyH_all (rs := [13]) (by kernel_rfl) (by simp) (fun i hi => ?_)
    obtain rfl : i = 13 := by simpa using hi
    refine wpOp_build (qs := #[(0, .int .u64 u), (1, .int .u64 id), (2, .int .u64 tg), (3, .int .u64 dr)]) (by rfl) (by kernel_rfl) (by rfl) (by first | kernel_rfl | simp [Act.eval]) (run_us4 _ _ _ _ _) ⟨hH.alloc _, ?_⟩
    (try simp only [List.getElem_toArray, List.getElem_cons_zero, List.getElem_cons_succ, Act.put, List.setIfInBounds_toArray, List.set_cons_zero, List.set_cons_succ])
    refine wpAnyH_call 14 9 #[.pointer (some ⟨b, 0, none⟩), .string (bsO (wordN 1)), .slice (some ⟨W4.heap.size, 0, none⟩) 4 4] _ (by kernel_rfl) (by rfl) (by kernel_rfl) (by kernel_rfl) HWD.out ?_
    rintro e W5 ⟨rfl, h5, f5⟩
    refine ⟨_, rfl, f5.blk (hH.alloc _) (by have := HBW.out.lt; omega) (by decide), ?_⟩
    (try simp only [List.getElem_toArray, List.getElem_cons_zero, List.getElem_cons_succ, Act.put, List.setIfInBounds_toArray, List.set_cons_zero, List.set_cons_succ])
    refine wpAnyH_done (by kernel_rfl) ?_ _
    have HB5 : Hid (BwF B b w W5) := (BwF.of HBw0.out (HB4.out.trans ((bel_drewZ W4 _).mono HB4.out.size))).trans f5
    have HC5 : Hid (Blk W5 w.heap.size 38 #[.int .i64 1, .int .u64 id, .slice V vn vc, .int .u64 tg, .int .i64 k, .int .i64 ef, .int .u64 dr]) := f5.blk (HKC4.out.below (bel_drewZ W4 _) HKC4.out.lt) (by have := HBW.out.lt; omega) (by decide)
    have HT5 : Hid (Blk W5 (w.heap.size + 1) 38 #[.int .i64 1, .int .u64 id, .slice V vn vc, .int .u64 tg, .int .i64 0, .int .i64 0, .int .u64 dr]) := f5.blk (HKT4.out.below (bel_drewZ W4 _) HKT4.out.lt) (by have := HBW.out.lt; omega) (by decide)
    have HVC := Lib.hid (bw_vector B b _ vec V vn vc W5 (HB5.out.env HE.out hB8) hB8 (Nat.le_trans HBw0.out HB5.out.1.size) h5.s (HR.out.below HB5.out.1) HR4.out (by
      have h1 := tailW_len [u, id, tg, dr] HUS.out
      have h2 := wordN_len 1
      rw [List.length_append, List.length_append]
      simp only [List.length_cons, List.length_nil] at h1
      omega) (by omega))
    have v2 : W5.cell? ⟨w.heap.size, 2, none⟩ = some (.slice V vn vc) := HC5.out.cell 2
    clear h5 f5 HWD HKC4 HKT4
    go_wp2_with (go_at_call 10; refine HVC.out.mono ?_)
    rintro e W6 ⟨rfl, h6, f6⟩
    clear v2 HVC
    have hC6 := f6.blk HC5.out (by have := HBW.out.lt; omega) (by decide)
    have hT6 := f6.blk HT5.out (by have := HBW.out.lt; omega) (by decide)
    have HB6 : Hid (BwF B b w W6) := HB5.out.trans f6
    have hr6 : Rd W6 W6.heap.size V vn (vec.map (.int .i32)) := (HR.out.below HB6.out.1).more (Nat.le_trans HBw0.out HB6.out.1.size)
    obtain ⟨bp, hbp⟩ : ∃ q, plainB ⟨u, 1, id, vec, tg, 0, 0, dr⟩ ⟨u, 1, id, vec, tg, k, ef, dr⟩ = q := ⟨_, rfl⟩
    have HPL : Hid (Calls Tryd.prog 23 #[.agg #[.int .i64 1, .int .u64 id, .slice V vn vc, .int .u64 tg, .int .i64 0, .int .i64 0, .int .u64 dr], .agg #[.int .i64 1, .int .u64 id, .slice V vn vc, .int .u64 tg, .int .i64 k, .int .i64 ef, .int .u64 dr]] W6 fun e w' => e = .returned (.bool bp) ∧ Below W6.heap.size W6 w') := by
      rw [← hbp]
      exact sc_plain ⟨u, 1, id, vec, tg, 0, 0, dr⟩ ⟨u, 1, id, vec, tg, k, ef, dr⟩ V V vn vc vn vc W6 hr6 hr6 (by omega) (by omega)
    have L7 : (Instr.loadAt 38 (.pointer (some ⟨w.heap.size + 1, 0, none⟩))).run Tryd.prog W6 = .ok (.agg #[.int .i64 1, .int .u64 id, .slice V vn vc, .int .u64 tg, .int .i64 0, .int .i64 0, .int .u64 dr]) W6 := callZ_blk hT6 rfl
    have L5 : (Instr.loadAt 38 (.pointer (some ⟨w.heap.size, 0, none⟩))).run Tryd.prog W6 = .ok (.agg #[.int .i64 1, .int .u64 id, .slice V vn vc, .int .u64 tg, .int .i64 k, .int .i64 ef, .int .u64 dr]) W6 := callZ_blk hC6 rfl
    have HC6 := Lib.hid hC6
    have H6 := Lib.hid h6
    obtain ⟨bk, hbk⟩ : ∃ q, (decide (0 ≤ k) && decide (k ≤ 4096)) = q := ⟨_, rfl⟩
    obtain ⟨be, hbe⟩ : ∃ q, (decide (0 ≤ ef) && decide (ef ≤ 4096)) = q := ⟨_, rfl⟩
    have HWK : Hid (∀ W, Calls Tryd.prog 25 #[.int .i64 k] W fun e w' => e = .returned (.bool bk) ∧ w' = W) := fun W => by rw [← hbk]; exact sc_within k W
    have HWE : Hid (∀ W, Calls Tryd.prog 25 #[.int .i64 ef] W fun e w' => e = .returned (.bool be) ∧ w' = W) := fun W => by rw [← hbe]; exact sc_within ef W
    have HFM : Hid (formB ⟨u, 1, id, vec, tg, k, ef, dr⟩ = (bp && bk && be)) := by
      show _ = _
      rw [← hbp, ← hbk, ← hbe]
      exact form1 u id vec tg k ef dr
    have HTX : Hid ((bp && bk && be) = true → BwU W6 B b (acc ++ lineN (⟨u, 1, id, vec, tg, k, ef, dr⟩, 1) ++ [10])) := fun hq => by
      have := H6.out
      rw [show lineN (⟨u, 1, id, vec, tg, k, ef, dr⟩, 1) = wordN 1 ++ tailW [u, id, tg, dr] ++ tailZ vec from rfl]
      simpa only [List.append_assoc] using this
    clear hT6 hC6 hr6 h6 f6 hbp hbk hbe
    go_wp2_with (first
      | refine wpList_loadE L7 _ rfl rfl rfl ?_
      | refine wpList_loadE L5 _ rfl rfl rfl ?_)
    with_reducible refine HPL.out.mono ?_
    rintro e W7 ⟨rfl, b7⟩
    have c4 : W7.cell? ⟨w.heap.size, 4, none⟩ = some (.int .i64 k) := (b7.cell (p := ⟨w.heap.size, 4, none⟩) HC6.out.lt).trans (HC6.out.cell 4)
    have c5 : W7.cell? ⟨w.heap.size, 5, none⟩ = some (.int .i64 ef) := (b7.cell (p := ⟨w.heap.size, 5, none⟩) HC6.out.lt).trans (HC6.out.cell 5)
    have HB7 : Hid (BwF B b w W7) := HB6.out.trans (BwF.of (Nat.le_trans HBw0.out HB6.out.1.size) b7)
    have HTX7 : Hid ((bp && bk && be) = true → BwU W7 B b (acc ++ lineN (⟨u, 1, id, vec, tg, k, ef, dr⟩, 1) ++ [10])) := fun q => (HTX.out q).below b7
    clear L7 L5 HPL b7 HC6 HTX HB6 HB5 HC5 HT5 H6
    cases bp with
    | false =>
      go_wp2_with fail
      go_ret
      exact ⟨by rw [HFM.out]; rfl, HB7.out, fun q => HTX7.out (by rw [← HFM.out]; exact q)⟩
    | true =>
      cases bk with
      | false =>
        go_wp2_with (go_at_call 25; with_reducible refine (HWK.out _).mono ?_; rintro e w' ⟨rfl, rfl⟩)
        go_ret
        exact ⟨by rw [HFM.out]; rfl, HB7.out, fun q => HTX7.out (by rw [← HFM.out]; exact q)⟩
      | true =>
        go_wp2_with (go_at_call 25; (first | with_reducible refine (HWK.out _).mono ?_ | with_reducible refine (HWE.out _).mono ?_); rintro e w' ⟨rfl, rfl⟩)
        go_ret
        exact ⟨by rw [HFM.out]; rfl, HB7.out, fun q => HTX7.out (by rw [← HFM.out]; exact q)⟩
  · refine wpOp_build (qs := #[(0, .int .u64 u), (1, .int .u64 id), (2, .int .u64 tg), (3, .int .u64 dr)]) (by rfl) (by kernel_rfl) (by rfl) (by first | kernel_rfl | simp [Act.eval]) (run_us4 _ _ _ _ _) ⟨hH.alloc _, ?_⟩
    (try simp only [List.getElem_toArray, List.getElem_cons_zero, List.getElem_cons_succ, Act.put, List.setIfInBounds_toArray, List.set_cons_zero, List.set_cons_succ])
    refine wpAnyH_all (rs := [3]) (by kernel_rfl) (by simp) (fun i hi => ?_)
    obtain rfl : i = 3 := by simpa using hi
    refine wpOp_call 24 #[.int .i64 1] _ (by rfl) (by kernel_rfl) (by kernel_rfl) (sc_name 1 _) ?_
    rintro e w' ⟨rfl, rfl⟩
    refine ⟨_, rfl, hH.alloc _, ?_⟩
    (try simp only [List.getElem_toArray, List.getElem_cons_zero, List.getElem_cons_succ, Act.put, List.setIfInBounds_toArray, List.set_cons_zero, List.set_cons_succ])
    refine wpAnyH_call 14 9 #[.pointer (some ⟨b, 0, none⟩), .string (bsO (wordN 1)), .slice (some ⟨W4.heap.size, 0, none⟩) 4 4] _ (by kernel_rfl) (by rfl) (by kernel_rfl) (by kernel_rfl) HWD.out ?_
    rintro e W5 ⟨rfl, h5, f5⟩
    refine ⟨_, rfl, f5.blk (hH.alloc _) (by have := HBW.out.lt; omega) (by decide), ?_⟩
    (try simp only [List.getElem_toArray, List.getElem_cons_zero, List.getElem_cons_succ, Act.put, List.setIfInBounds_toArray, List.set_cons_zero, List.set_cons_succ])
    refine wpAnyH_done (by kernel_rfl) ?_ _
    have HB5 : Hid (BwF B b w W5) := (BwF.of HBw0.out (HB4.out.trans ((bel_drewZ W4 _).mono HB4.out.size))).trans f5
    have HC5 : Hid (Blk W5 w.heap.size 38 #[.int .i64 1, .int .u64 id, .slice V vn vc, .int .u64 tg, .int .i64 k, .int .i64 ef, .int .u64 dr]) := f5.blk (HKC4.out.below (bel_drewZ W4 _) HKC4.out.lt) (by have := HBW.out.lt; omega) (by decide)
    have HT5 : Hid (Blk W5 (w.heap.size + 1) 38 #[.int .i64 1, .int .u64 id, .slice V vn vc, .int .u64 tg, .int .i64 0, .int .i64 0, .int .u64 dr]) := f5.blk (HKT4.out.below (bel_drewZ W4 _) HKT4.out.lt) (by have := HBW.out.lt; omega) (by decide)
    have HVC := Lib.hid (bw_vector B b _ vec V vn vc W5 (HB5.out.env HE.out hB8) hB8 (Nat.le_trans HBw0.out HB5.out.1.size) h5.s (HR.out.below HB5.out.1) HR4.out (by
      have h1 := tailW_len [u, id, tg, dr] HUS.out
      have h2 := wordN_len 1
      rw [List.length_append, List.length_append]
      simp only [List.length_cons, List.length_nil] at h1
      omega) (by omega))
    have v2 : W5.cell? ⟨w.heap.size, 2, none⟩ = some (.slice V vn vc) := HC5.out.cell 2
    clear h5 f5 HWD HKC4 HKT4
    go_wp2_with (go_at_call 10; refine HVC.out.mono ?_)
    rintro e W6 ⟨rfl, h6, f6⟩
    clear v2 HVC
    have hC6 := f6.blk HC5.out (by have := HBW.out.lt; omega) (by decide)
    have hT6 := f6.blk HT5.out (by have := HBW.out.lt; omega) (by decide)
    have HB6 : Hid (BwF B b w W6) := HB5.out.trans f6
    have hr6 : Rd W6 W6.heap.size V vn (vec.map (.int .i32)) := (HR.out.below HB6.out.1).more (Nat.le_trans HBw0.out HB6.out.1.size)
    obtain ⟨bp, hbp⟩ : ∃ q, plainB ⟨u, 1, id, vec, tg, 0, 0, dr⟩ ⟨u, 1, id, vec, tg, k, ef, dr⟩ = q := ⟨_, rfl⟩
    have HPL : Hid (Calls Tryd.prog 23 #[.agg #[.int .i64 1, .int .u64 id, .slice V vn vc, .int .u64 tg, .int .i64 0, .int .i64 0, .int .u64 dr], .agg #[.int .i64 1, .int .u64 id, .slice V vn vc, .int .u64 tg, .int .i64 k, .int .i64 ef, .int .u64 dr]] W6 fun e w' => e = .returned (.bool bp) ∧ Below W6.heap.size W6 w') := by
      rw [← hbp]
      exact sc_plain ⟨u, 1, id, vec, tg, 0, 0, dr⟩ ⟨u, 1, id, vec, tg, k, ef, dr⟩ V V vn vc vn vc W6 hr6 hr6 (by omega) (by omega)
    have L7 : (Instr.loadAt 38 (.pointer (some ⟨w.heap.size + 1, 0, none⟩))).run Tryd.prog W6 = .ok (.agg #[.int .i64 1, .int .u64 id, .slice V vn vc, .int .u64 tg, .int .i64 0, .int .i64 0, .int .u64 dr]) W6 := callZ_blk hT6 rfl
    have L5 : (Instr.loadAt 38 (.pointer (some ⟨w.heap.size, 0, none⟩))).run Tryd.prog W6 = .ok (.agg #[.int .i64 1, .int .u64 id, .slice V vn vc, .int .u64 tg, .int .i64 k, .int .i64 ef, .int .u64 dr]) W6 := callZ_blk hC6 rfl
    have HC6 := Lib.hid hC6
    have H6 := Lib.hid h6
    obtain ⟨bk, hbk⟩ : ∃ q, (decide (0 ≤ k) && decide (k ≤ 4096)) = q := ⟨_, rfl⟩
    obtain ⟨be, hbe⟩ : ∃ q, (decide (0 ≤ ef) && decide (ef ≤ 4096)) = q := ⟨_, rfl⟩
    have HWK : Hid (∀ W, Calls Tryd.prog 25 #[.int .i64 k] W fun e w' => e = .returned (.bool bk) ∧ w' = W) := fun W => by rw [← hbk]; exact sc_within k W
    have HWE : Hid (∀ W, Calls Tryd.prog 25 #[.int .i64 ef] W fun e w' => e = .returned (.bool be) ∧ w' = W) := fun W => by rw [← hbe]; exact sc_within ef W
    have HFM : Hid (formB ⟨u, 1, id, vec, tg, k, ef, dr⟩ = (bp && bk && be)) := by
      show _ = _
      rw [← hbp, ← hbk, ← hbe]
      exact form1 u id vec tg k ef dr
    have HTX : Hid ((bp && bk && be) = true → BwU W6 B b (acc ++ lineN (⟨u, 1, id, vec, tg, k, ef, dr⟩, 1) ++ [10])) := fun hq => by
      have := H6.out
      rw [show lineN (⟨u, 1, id, vec, tg, k, ef, dr⟩, 1) = wordN 1 ++ tailW [u, id, tg, dr] ++ tailZ vec from rfl]
      simpa only [List.append_assoc] using this
    clear hT6 hC6 hr6 h6 f6 hbp hbk hbe
    go_wp2_with (first
      | refine wpList_loadE L7 _ rfl rfl rfl ?_
      | refine wpList_loadE L5 _ rfl rfl rfl ?_)
    with_reducible refine HPL.out.mono ?_
    rintro e W7 ⟨rfl, b7⟩
    have c4 : W7.cell? ⟨w.heap.size, 4, none⟩ = some (.int .i64 k) := (b7.cell (p := ⟨w.heap.size, 4, none⟩) HC6.out.lt).trans (HC6.out.cell 4)
    have c5 : W7.cell? ⟨w.heap.size, 5, none⟩ = some (.int .i64 ef) := (b7.cell (p := ⟨w.heap.size, 5, none⟩) HC6.out.lt).trans (HC6.out.cell 5)
    have HB7 : Hid (BwF B b w W7) := HB6.out.trans (BwF.of (Nat.le_trans HBw0.out HB6.out.1.size) b7)
    have HTX7 : Hid ((bp && bk && be) = true → BwU W7 B b (acc ++ lineN (⟨u, 1, id, vec, tg, k, ef, dr⟩, 1) ++ [10])) := fun q => (HTX.out q).below b7
    clear L7 L5 HPL b7 HC6 HTX HB6 HB5 HC5 HT5 H6
    cases bp with
    | false =>
      go_wp2_with fail
      go_ret
      exact ⟨by rw [HFM.out]; rfl, HB7.out, fun q => HTX7.out (by rw [← HFM.out]; exact q)⟩
    | true =>
      cases bk with
      | false =>
        go_wp2_with (go_at_call 25; with_reducible refine (HWK.out _).mono ?_; rintro e w' ⟨rfl, rfl⟩)
        go_ret
        exact ⟨by rw [HFM.out]; rfl, HB7.out, fun q => HTX7.out (by rw [← HFM.out]; exact q)⟩
      | true =>
        go_wp2_with (go_at_call 25; (first | with_reducible refine (HWK.out _).mono ?_ | with_reducible refine (HWE.out _).mono ?_); rintro e w' ⟨rfl, rfl⟩)
        go_ret
        exact ⟨by rw [HFM.out]; rfl, HB7.out, fun q => HTX7.out (by rw [← HFM.out]; exact q)⟩
set_option maxHeartbeats 16000000 in
set_option maxRecDepth 100000 in
theorem bw_call4 (B b : Nat) (acc : List UInt8) (a : SAct) (hk : a.kd = 4) (V : Option Addr) (vn vc : Nat) (w : World) (he : Env w) (hB8 : 8 ≤ B) (hBw : B ≤ w.heap.size) (h : BwS w B b acc) (hr : Rd w B V vn (a.vec.map (.int .i32))) (hrng : a.Rng) (u : Nat) (hwk : a.wk = u) (hu64 : u ≤ 64) (hvn : vn ≤ 1048576) (hlen : acc.length ≤ 109951162777) :
    Calls Tryd.prog 12 #[.pointer (some ⟨b, 0, none⟩), .int .u64 u, .agg (callC a V vn vc)] w fun e w' => e = .returned (.bool (formB a)) ∧ BwF B b w w' ∧ (formB a = true → BwU w' B b (acc ++ lineN (a, 1) ++ [10])) := by
  obtain ⟨wk, kd, id, vec, tg, k, ef, dr⟩ := a
  simp only at hk hr hwk
  subst hk
  subst hwk
  unfold callC
  simp only
  obtain ⟨r1, r2, r3, r4⟩ := hrng
  simp only at r1 r2 r3 r4
  have HBw0 := Lib.hid hBw
  have HE := Lib.hid he
  have HR := Lib.hid hr
  have HBW := Lib.hid h
  have HR4 := Lib.hid r4
  have HVN := Lib.hid hr.lenI
  obtain ⟨kw, hkw⟩ : ∃ kw : Nat, IntKind.u64.wrap k = (kw : Int) := ⟨(IntKind.u64.wrap k).toNat, by rw [IntKind.wrap_u64]; omega⟩
  obtain ⟨ew, hew⟩ : ∃ ew : Nat, IntKind.u64.wrap ef = (ew : Int) := ⟨(IntKind.u64.wrap ef).toNat, by rw [IntKind.wrap_u64]; omega⟩
  have HKW := Lib.hid hkw
  have HEW := Lib.hid hew
  have HKB : Hid (kw < 18446744073709551616) := by show _ < _; rw [IntKind.wrap_u64] at hkw; omega
  have HEB : Hid (ew < 18446744073709551616) := by show _ < _; rw [IntKind.wrap_u64] at hew; omega
  clear hkw hew
  have HUS : Hid (∀ x ∈ ([u, tg, kw, ew] : List Nat), x < 18446744073709551616) := by
    show ∀ x ∈ ([u, tg, kw, ew] : List Nat), x < 18446744073709551616
    have q1 := HKB.out
    have q2 := HEB.out
    intro x hx
    simp only [List.mem_cons, List.not_mem_nil, or_false] at hx
    rcases hx with rfl | rfl | rfl | rfl <;> omega
  obtain ⟨W2, hW2, KC, KT, HB, hsz⟩ := two_boxes w #[.int .i64 4, .int .u64 id, .slice V vn vc, .int .u64 tg, .int .i64 k, .int .i64 ef, .int .u64 dr] #[.int .i64 4, .int .u64 0, .slice none 0 0, .int .u64 0, .int .i64 0, .int .i64 0, .int .u64 0]
  have HKC := Lib.hid KC
  have HKT := Lib.hid KT
  have HBL := Lib.hid HB
  have HSZ := Lib.hid hsz
  have HW2 := Lib.hid hW2
  clear KC KT HB hsz hW2 r1 r2 r3 r4 he hr h
  go_enter Tryd.func12, Tryd.ntmps12
  go_wp2_with fail
  rw [HW2.out]
  clear HW2
  refine wp_region_held_drew (S := fun W => Blk W w.heap.size 38 #[.int .i64 4, .int .u64 id, .slice V vn vc, .int .u64 tg, .int .i64 k, .int .i64 ef, .int .u64 dr]) (by kernel_rfl) HKC.out (fun hH => ?_)
  refine wpAnyH_take (i := 0) (v := .pointer (some ⟨w.heap.size, 1, none⟩)) rfl (by kernel_rfl) (by kernel_rfl) (by kernel_rfl) (fun _ _ _ h => h) (.inl ⟨by rfl, fun _ _ => by kernel_rfl⟩) hH ?_
  (try simp only [List.getElem_toArray, List.getElem_cons_zero, Act.put, List.setIfInBounds_toArray, List.set_cons_zero, List.set_cons_succ])
  refine wpAnyH_take (i := 1) (v := .pointer (some ⟨w.heap.size, 3, none⟩)) rfl (by kernel_rfl) (by kernel_rfl) (by kernel_rfl) (fun _ _ _ h => h) (.inl ⟨by rfl, fun _ _ => by kernel_rfl⟩) hH ?_
  (try simp only [List.getElem_toArray, List.getElem_cons_zero, List.getElem_cons_succ, Act.put, List.setIfInBounds_toArray, List.set_cons_zero, List.set_cons_succ])
  refine wpAnyH_take (i := 2) (v := .int .u64 tg) rfl (by kernel_rfl) (by kernel_rfl) (by kernel_rfl) (fun _ _ _ h => h) (yieldsIf_loadP (by rfl) _ rfl rfl (fun _ q => loadZ_u64 (q.cell 3))) hH ?_
  (try simp only [List.getElem_toArray, List.getElem_cons_zero, List.getElem_cons_succ, Act.put, List.setIfInBounds_toArray, List.set_cons_zero, List.set_cons_succ])
  refine wpAnyH_take (i := 3) (v := .pointer (some ⟨w.heap.size, 1, none⟩)) rfl (by kernel_rfl) (by kernel_rfl) (by kernel_rfl) (fun _ _ _ h => h) (.inl ⟨by rfl, fun _ _ => by kernel_rfl⟩) hH ?_
  (try simp only [List.getElem_toArray, List.getElem_cons_zero, List.getElem_cons_succ, Act.put, List.setIfInBounds_toArray, List.set_cons_zero, List.set_cons_succ])
  refine wpAnyH_take (i := 4) (v := .pointer (some ⟨w.heap.size, 2, none⟩)) rfl (by kernel_rfl) (by kernel_rfl) (by kernel_rfl) (fun _ _ _ h => h) (.inl ⟨by rfl, fun _ _ => by kernel_rfl⟩) hH ?_
  (try simp only [List.getElem_toArray, List.getElem_cons_zero, List.getElem_cons_succ, Act.put, List.setIfInBounds_toArray, List.set_cons_zero, List.set_cons_succ])
  refine wpAnyH_take (i := 5) (v := .slice V vn vc) rfl (by kernel_rfl) (by kernel_rfl) (by kernel_rfl) (fun _ _ _ h => h) (yieldsIf_loadP (by rfl) _ rfl rfl (fun _ q => loadZ_vec (q.cell 2))) hH ?_
  (try simp only [List.getElem_toArray, List.getElem_cons_zero, List.getElem_cons_succ, Act.put, List.setIfInBounds_toArray, List.set_cons_zero, List.set_cons_succ])
  refine wpAnyH_take (i := 6) (v := .pointer (some ⟨w.heap.size, 4, none⟩)) rfl (by kernel_rfl) (by kernel_rfl) (by kernel_rfl) (fun _ _ _ h => h) (.inl ⟨by rfl, fun _ _ => by kernel_rfl⟩) hH ?_
  (try simp only [List.getElem_toArray, List.getElem_cons_zero, List.getElem_cons_succ, Act.put, List.setIfInBounds_toArray, List.set_cons_zero, List.set_cons_succ])
  refine wpAnyH_take (i := 7) (v := .int .i64 k) rfl (by kernel_rfl) (by kernel_rfl) (by kernel_rfl) (fun _ _ _ h => h) (yieldsIf_loadP (by rfl) _ rfl rfl (fun _ q => loadY_int (q.cell 4))) hH ?_
  (try simp only [List.getElem_toArray, List.getElem_cons_zero, List.getElem_cons_succ, Act.put, List.setIfInBounds_toArray, List.set_cons_zero, List.set_cons_succ])
  refine wpAnyH_take (i := 8) (v := .pointer (some ⟨w.heap.size, 5, none⟩)) rfl (by kernel_rfl) (by kernel_rfl) (by kernel_rfl) (fun _ _ _ h => h) (.inl ⟨by rfl, fun _ _ => by kernel_rfl⟩) hH ?_
  (try simp only [List.getElem_toArray, List.getElem_cons_zero, List.getElem_cons_succ, Act.put, List.setIfInBounds_toArray, List.set_cons_zero, List.set_cons_succ])
  refine wpAnyH_take (i := 9) (v := .int .i64 ef) rfl (by kernel_rfl) (by kernel_rfl) (by kernel_rfl) (fun _ _ _ h => h) (yieldsIf_loadP (by rfl) _ rfl rfl (fun _ q => loadY_int (q.cell 5))) hH ?_
  (try simp only [List.getElem_toArray, List.getElem_cons_zero, List.getElem_cons_succ, Act.put, List.setIfInBounds_toArray, List.set_cons_zero, List.set_cons_succ])
  refine wpAnyH_take (i := 10) (v := .pointer (some ⟨(w.heap.size + 1), 1, none⟩)) rfl (by kernel_rfl) (by kernel_rfl) (by kernel_rfl) (fun _ _ _ h => h) (.inl ⟨by rfl, fun _ _ => by kernel_rfl⟩) hH ?_
  (try simp only [List.getElem_toArray, List.getElem_cons_zero, List.getElem_cons_succ, Act.put, List.setIfInBounds_toArray, List.set_cons_zero, List.set_cons_succ])
  refine wpAnyH_take (i := 11) (v := .pointer (some ⟨(w.heap.size + 1), 3, none⟩)) rfl (by kernel_rfl) (by kernel_rfl) (by kernel_rfl) (fun _ _ _ h => h) (.inl ⟨by rfl, fun _ _ => by kernel_rfl⟩) hH ?_
  (try simp only [List.getElem_toArray, List.getElem_cons_zero, List.getElem_cons_succ, Act.put, List.setIfInBounds_toArray, List.set_cons_zero, List.set_cons_succ])
  obtain ⟨X1, hs1, hT1, hg1⟩ := stZ (W := W2.drew) (g := w.heap.size + 1) (t := 38) (i := 3) (ty := 33) (v := .int .u64 tg) (P := Tryd.prog) HKT.out (show 3 < 7 by omega) (fun W h1 h2 => stZ_u64 W h1 h2)
  have hC1 := hH.grown hg1 (fun e => by injection e with e; omega)
  refine wpAnyH_store 12 _ _ _ (by kernel_rfl) (by rfl) (by kernel_rfl) (by rfl) (by rfl) (by rfl) hs1 hC1 ?_
  (try simp only [List.getElem_toArray, List.getElem_cons_zero, List.getElem_cons_succ, Act.put])
  refine wpAnyH_take (i := 13) (v := .pointer (some ⟨(w.heap.size + 1), 1, none⟩)) rfl (by kernel_rfl) (by kernel_rfl) (by kernel_rfl) (fun _ _ _ h => h) (.inl ⟨by rfl, fun _ _ => by kernel_rfl⟩) hC1 ?_
  (try simp only [List.getElem_toArray, List.getElem_cons_zero, List.getElem_cons_succ, Act.put, List.setIfInBounds_toArray, List.set_cons_zero, List.set_cons_succ])
  refine wpAnyH_take (i := 14) (v := .pointer (some ⟨(w.heap.size + 1), 2, none⟩)) rfl (by kernel_rfl) (by kernel_rfl) (by kernel_rfl) (fun _ _ _ h => h) (.inl ⟨by rfl, fun _ _ => by kernel_rfl⟩) hC1 ?_
  (try simp only [List.getElem_toArray, List.getElem_cons_zero, List.getElem_cons_succ, Act.put, List.setIfInBounds_toArray, List.set_cons_zero, List.set_cons_succ])
  obtain ⟨X2, hs2, hT2, hg2⟩ := stZ (W := X1) (g := w.heap.size + 1) (t := 38) (i := 2) (ty := 34) (v := .slice V vn vc) (P := Tryd.prog) hT1 (show 2 < 7 by omega) (fun W h1 h2 => stZ_vec W h1 h2)
  have hC2 := hC1.grown hg2 (fun e => by injection e with e; omega)
  refine wpAnyH_store 15 _ _ _ (by kernel_rfl) (by rfl) (by kernel_rfl) (by rfl) (by rfl) (by rfl) hs2 hC2 ?_
  (try simp only [List.getElem_toArray, List.getElem_cons_zero, List.getElem_cons_succ, Act.put])
  refine wpAnyH_take (i := 16) (v := .pointer (some ⟨(w.heap.size + 1), 4, none⟩)) rfl (by kernel_rfl) (by kernel_rfl) (by kernel_rfl) (fun _ _ _ h => h) (.inl ⟨by rfl, fun _ _ => by kernel_rfl⟩) hC2 ?_
  (try simp only [List.getElem_toArray, List.getElem_cons_zero, List.getElem_cons_succ, Act.put, List.setIfInBounds_toArray, List.set_cons_zero, List.set_cons_succ])
  obtain ⟨X3, hs3, hT3, hg3⟩ := stZ (W := X2) (g := w.heap.size + 1) (t := 38) (i := 4) (ty := 3) (v := .int .i64 k) (P := Tryd.prog) hT2 (show 4 < 7 by omega) (fun W h1 h2 => stZ_int W h1 h2)
  have hC3 := hC2.grown hg3 (fun e => by injection e with e; omega)
  refine wpAnyH_store 17 _ _ _ (by kernel_rfl) (by rfl) (by kernel_rfl) (by rfl) (by rfl) (by rfl) hs3 hC3 ?_
  (try simp only [List.getElem_toArray, List.getElem_cons_zero, List.getElem_cons_succ, Act.put])
  refine wpAnyH_take (i := 18) (v := .pointer (some ⟨(w.heap.size + 1), 5, none⟩)) rfl (by kernel_rfl) (by kernel_rfl) (by kernel_rfl) (fun _ _ _ h => h) (.inl ⟨by rfl, fun _ _ => by kernel_rfl⟩) hC3 ?_
  (try simp only [List.getElem_toArray, List.getElem_cons_zero, List.getElem_cons_succ, Act.put, List.setIfInBounds_toArray, List.set_cons_zero, List.set_cons_succ])
  obtain ⟨X4, hs4, hT4, hg4⟩ := stZ (W := X3) (g := w.heap.size + 1) (t := 38) (i := 5) (ty := 3) (v := .int .i64 ef) (P := Tryd.prog) hT3 (show 5 < 7 by omega) (fun W h1 h2 => stZ_int W h1 h2)
  have hC4 := hC3.grown hg4 (fun e => by injection e with e; omega)
  refine wpAnyH_store 19 _ _ _ (by kernel_rfl) (by rfl) (by kernel_rfl) (by rfl) (by rfl) (by rfl) hs4 hC4 ?_
  (try simp only [List.getElem_toArray, List.getElem_cons_zero, List.getElem_cons_succ, Act.put])
  refine wpAnyH_done (by kernel_rfl) ?_ _
  have hG4 : W2.grownBy X4 (some (w.heap.size + 1)) := (World.grownBy.trans (b := X3) (World.grownBy.trans (b := X2) (World.grownBy.trans (b := X1) (undrewZ hg1) hg2) hg3) hg4)
  have hC4' := hC4
  have hT4' := hT4
  clear hs1 hs2 hs3 hs4 hT1 hT2 hT3 hC1 hC2 hC3 hg1 hg2 hg3 hg4 hH
  have HKC4 : Hid (Blk X4 w.heap.size 38 #[.int .i64 4, .int .u64 id, .slice V vn vc, .int .u64 tg, .int .i64 k, .int .i64 ef, .int .u64 dr]) := hC4
  have HKT4 : Hid (Blk X4 (w.heap.size + 1) 38 #[.int .i64 4, .int .u64 0, .slice V vn vc, .int .u64 tg, .int .i64 k, .int .i64 ef, .int .u64 0]) := hT4
  have HB4 : Hid (Below w.heap.size w X4) := (HBL.out.trans (below_of_only hG4 (by have := HSZ.out; omega) (by omega)))
  have HSZ4 : Hid (w.heap.size + 2 ≤ X4.heap.size) := by show _ ≤ _; have h1 := HSZ.out; have h2 := hG4.size; omega
  clear hC4 hT4 hG4 HKC HKT HBL HSZ
  go_wp2_with fail
  have HWD : Hid (Calls Tryd.prog 9 #[.pointer (some ⟨b, 0, none⟩), .string (bsO (wordN 4)), .slice (some ⟨X4.heap.size, 0, none⟩) 4 4] (X4.drew.alloc (.cells #[.int .u64 u, .int .u64 tg, .int .u64 kw, .int .u64 ew] 33)) fun e w' => e = .returned (.tuple #[]) ∧ BwU w' B b (acc ++ wordN 4 ++ tailW [u, tg, kw, ew]) ∧ BwF B b (X4.drew.alloc (.cells #[.int .u64 u, .int .u64 tg, .int .u64 kw, .int .u64 ew] 33)) w') := by
    have hw := wordN_len 4
    have hb := (HBW.out.below HB4.out)
    have hlt := hb.lt
    refine bw_word B b X4.heap.size acc (wordN 4) [u, tg, kw, ew] 4 4 rfl _ (HE.out.on (HB4.out.trans ((bel_drewZ X4 _).mono HB4.out.size))) hB8 (by have := HB4.out.size; rw [alloc_sizeX]; show B ≤ X4.heap.size + 1; omega) (hb.below (bel_drewZ X4 _)) (row_blk X4.drew [u, tg, kw, ew]) (by omega) HUS.out (by omega) (by omega)
  refine wp_region_held_drew (S := fun W => Blk W w.heap.size 38 #[.int .i64 4, .int .u64 id, .slice V vn vc, .int .u64 tg, .int .i64 k, .int .i64 ef, .int .u64 dr]) (by kernel_rfl) HKC4.out (fun hH => ?_)
  refine wpAnyH_take (i := 0) (v := .pointer (some ⟨b, 0, none⟩)) rfl (by kernel_rfl) (by kernel_rfl) (by kernel_rfl) (fun _ _ _ h => h) (.inl ⟨by rfl, fun _ _ => by kernel_rfl⟩) hH ?_
  (try simp only [List.getElem_toArray, List.getElem_cons_zero, Act.put, List.setIfInBounds_toArray, List.set_cons_zero, List.set_cons_succ])
  refine wpAnyH_take (i := 1) (v := .pointer (some ⟨w.heap.size, 0, none⟩)) rfl (by kernel_rfl) (by kernel_rfl) (by kernel_rfl) (fun _ _ _ h => h) (.inl ⟨by rfl, fun _ _ => by kernel_rfl⟩) hH ?_
  (try simp only [List.getElem_toArray, List.getElem_cons_zero, List.getElem_cons_succ, Act.put, List.setIfInBounds_toArray, List.set_cons_zero, List.set_cons_succ])
  refine wpAnyH_take (i := 2) (v := .int .i64 4) rfl (by kernel_rfl) (by kernel_rfl) (by kernel_rfl) (fun _ _ _ h => h) (yieldsIf_loadP (by rfl) _ rfl rfl (fun _ q => loadY_int (q.cell 0))) hH ?_
  (try simp only [List.getElem_toArray, List.getElem_cons_zero, List.getElem_cons_succ, Act.put, List.setIfInBounds_toArray, List.set_cons_zero, List.set_cons_succ])
  refine wpAnyH_take (i := 4) (v := .int .u64 u) rfl (by kernel_rfl) (by kernel_rfl) (by kernel_rfl) (fun _ _ _ h => h) (.inl ⟨by rfl, fun _ _ => by kernel_rfl⟩) hH ?_
  (try simp only [List.getElem_toArray, List.getElem_cons_zero, List.getElem_cons_succ, Act.put, List.setIfInBounds_toArray, List.set_cons_zero, List.set_cons_succ])
  refine wpAnyH_take (i := 5) (v := .pointer (some ⟨w.heap.size, 1, none⟩)) rfl (by kernel_rfl) (by kernel_rfl) (by kernel_rfl) (fun _ _ _ h => h) (.inl ⟨by rfl, fun _ _ => by kernel_rfl⟩) hH ?_
  (try simp only [List.getElem_toArray, List.getElem_cons_zero, List.getElem_cons_succ, Act.put, List.setIfInBounds_toArray, List.set_cons_zero, List.set_cons_succ])
  refine wpAnyH_take (i := 6) (v := .pointer (some ⟨w.heap.size, 3, none⟩)) rfl (by kernel_rfl) (by kernel_rfl) (by kernel_rfl) (fun _ _ _ h => h) (.inl ⟨by rfl, fun _ _ => by kernel_rfl⟩) hH ?_
  (try simp only [List.getElem_toArray, List.getElem_cons_zero, List.getElem_cons_succ, Act.put, List.setIfInBounds_toArray, List.set_cons_zero, List.set_cons_succ])
  refine wpAnyH_take (i := 7) (v := .int .u64 tg) rfl (by kernel_rfl) (by kernel_rfl) (by kernel_rfl) (fun _ _ _ h => h) (yieldsIf_loadP (by rfl) _ rfl rfl (fun _ q => loadZ_u64 (q.cell 3))) hH ?_
  (try simp only [List.getElem_toArray, List.getElem_cons_zero, List.getElem_cons_succ, Act.put, List.setIfInBounds_toArray, List.set_cons_zero, List.set_cons_succ])
  refine wpAnyH_take (i := 8) (v := .pointer (some ⟨w.heap.size, 4, none⟩)) rfl (by kernel_rfl) (by kernel_rfl) (by kernel_rfl) (fun _ _ _ h => h) (.inl ⟨by rfl, fun _ _ => by kernel_rfl⟩) hH ?_
  (try simp only [List.getElem_toArray, List.getElem_cons_zero, List.getElem_cons_succ, Act.put, List.setIfInBounds_toArray, List.set_cons_zero, List.set_cons_succ])
  refine wpAnyH_take (i := 9) (v := .int .i64 k) rfl (by kernel_rfl) (by kernel_rfl) (by kernel_rfl) (fun _ _ _ h => h) (yieldsIf_loadP (by rfl) _ rfl rfl (fun _ q => loadY_int (q.cell 4))) hH ?_
  (try simp only [List.getElem_toArray, List.getElem_cons_zero, List.getElem_cons_succ, Act.put, List.setIfInBounds_toArray, List.set_cons_zero, List.set_cons_succ])
  refine wpAnyH_take (i := 10) (v := .int .u64 kw) rfl (by kernel_rfl) (by kernel_rfl) (by kernel_rfl) (fun _ _ _ h => h) (yieldsIf_convD Tryd.underlying3 Tryd.underlying33 HKW.out (by rfl) _ rfl rfl) hH ?_
  (try simp only [List.getElem_toArray, List.getElem_cons_zero, List.getElem_cons_succ, Act.put, List.setIfInBounds_toArray, List.set_cons_zero, List.set_cons_succ])
  refine wpAnyH_take (i := 11) (v := .pointer (some ⟨w.heap.size, 5, none⟩)) rfl (by kernel_rfl) (by kernel_rfl) (by kernel_rfl) (fun _ _ _ h => h) (.inl ⟨by rfl, fun _ _ => by kernel_rfl⟩) hH ?_
  (try simp only [List.getElem_toArray, List.getElem_cons_zero, List.getElem_cons_succ, Act.put, List.setIfInBounds_toArray, List.set_cons_zero, List.set_cons_succ])
  refine wpAnyH_take (i := 12) (v := .int .i64 ef) rfl (by kernel_rfl) (by kernel_rfl) (by kernel_rfl) (fun _ _ _ h => h) (yieldsIf_loadP (by rfl) _ rfl rfl (fun _ q => loadY_int (q.cell 5))) hH ?_
  (try simp only [List.getElem_toArray, List.getElem_cons_zero, List.getElem_cons_succ, Act.put, List.setIfInBounds_toArray, List.set_cons_zero, List.set_cons_succ])
  refine wpAnyH_take (i := 13) (v := .int .u64 ew) rfl (by kernel_rfl) (by kernel_rfl) (by kernel_rfl) (fun _ _ _ h => h) (yieldsIf_convD Tryd.underlying3 Tryd.underlying33 HEW.out (by rfl) _ rfl rfl) hH ?_
  (try simp only [List.getElem_toArray, List.getElem_cons_zero, List.getElem_cons_succ, Act.put, List.setIfInBounds_toArray, List.set_cons_zero, List.set_cons_succ])
  refine wpAnyH_all (rs := [3, 14]) (by kernel_rfl) (by simp) (fun i hi => ?_)
  rcases (by simpa using hi : i = 3 ∨ i = 14) with rfl | rfl
  · refine wpOp_call 24 #[.int .i64 4] _ (by rfl) (by kernel_rfl) (by kernel_rfl) (sc_name 4 _) ?_
    rintro e w' ⟨rfl, rfl⟩
    refine ⟨_, rfl, hH, ?_⟩
    (try simp only [List.getElem_toArray, List.getElem_cons_zero, List.getElem_cons_succ, Act.put, List.setIfInBounds_toArray, List.set_cons_zero, List.set_cons_succ])
    refine wpAnyH_all (rs := [14]) (by kernel_rfl) (by simp) (fun i hi => ?_)
    obtain rfl : i = 14 := by simpa using hi
    refine wpOp_build (qs := #[(0, .int .u64 u), (1, .int .u64 tg), (2, .int .u64 kw), (3, .int .u64 ew)]) (by rfl) (by kernel_rfl) (by rfl) (by first | kernel_rfl | simp [Act.eval]) (run_us4 _ _ _ _ _) ⟨hH.alloc _, ?_⟩
    (try simp only [List.getElem_toArray, List.getElem_cons_zero, List.getElem_cons_succ, Act.put, List.setIfInBounds_toArray, List.set_cons_zero, List.set_cons_succ])
    refine wpAnyH_call 15 9 #[.pointer (some ⟨b, 0, none⟩), .string (bsO (wordN 4)), .slice (some ⟨X4.heap.size, 0, none⟩) 4 4] _ (by kernel_rfl) (by rfl) (by kernel_rfl) (by kernel_rfl) HWD.out ?_
    rintro e W5 ⟨rfl, h5, f5⟩
    refine ⟨_, rfl, f5.blk (hH.alloc _) (by have := HBW.out.lt; omega) (by decide), ?_⟩
    (try simp only [List.getElem_toArray, List.getElem_cons_zero, List.getElem_cons_succ, Act.put, List.setIfInBounds_toArray, List.set_cons_zero, List.set_cons_succ])
    refine wpAnyH_done (by kernel_rfl) ?_ _
    have HB5 : Hid (BwF B b w W5) := (BwF.of HBw0.out (HB4.out.trans ((bel_drewZ X4 _).mono HB4.out.size))).trans f5
    have HC5 : Hid (Blk W5 w.heap.size 38 #[.int .i64 4, .int .u64 id, .slice V vn vc, .int .u64 tg, .int .i64 k, .int .i64 ef, .int .u64 dr]) := f5.blk (HKC4.out.below (bel_drewZ X4 _) HKC4.out.lt) (by have := HBW.out.lt; omega) (by decide)
    have HT5 : Hid (Blk W5 (w.heap.size + 1) 38 #[.int .i64 4, .int .u64 0, .slice V vn vc, .int .u64 tg, .int .i64 k, .int .i64 ef, .int .u64 0]) := f5.blk (HKT4.out.below (bel_drewZ X4 _) HKT4.out.lt) (by have := HBW.out.lt; omega) (by decide)
    have HVC := Lib.hid (bw_vector B b _ vec V vn vc W5 (HB5.out.env HE.out hB8) hB8 (Nat.le_trans HBw0.out HB5.out.1.size) h5.s (HR.out.below HB5.out.1) HR4.out (by
      have h1 := tailW_len [u, tg, kw, ew] HUS.out
      have h2 := wordN_len 4
      rw [List.length_append, List.length_append]
      simp only [List.length_cons, List.length_nil] at h1
      omega) (by omega))
    have v2 : W5.cell? ⟨w.heap.size, 2, none⟩ = some (.slice V vn vc) := HC5.out.cell 2
    clear h5 f5 HWD HKC4 HKT4
    go_wp2_with (go_at_call 10; refine HVC.out.mono ?_)
    rintro e W6 ⟨rfl, h6, f6⟩
    clear v2 HVC
    have hC6 := f6.blk HC5.out (by have := HBW.out.lt; omega) (by decide)
    have hT6 := f6.blk HT5.out (by have := HBW.out.lt; omega) (by decide)
    have HB6 : Hid (BwF B b w W6) := HB5.out.trans f6
    have hr6 : Rd W6 W6.heap.size V vn (vec.map (.int .i32)) := (HR.out.below HB6.out.1).more (Nat.le_trans HBw0.out HB6.out.1.size)
    obtain ⟨bp, hbp⟩ : ∃ q, plainB ⟨u, 4, 0, vec, tg, k, ef, 0⟩ ⟨u, 4, id, vec, tg, k, ef, dr⟩ = q := ⟨_, rfl⟩
    have HPL : Hid (Calls Tryd.prog 23 #[.agg #[.int .i64 4, .int .u64 0, .slice V vn vc, .int .u64 tg, .int .i64 k, .int .i64 ef, .int .u64 0], .agg #[.int .i64 4, .int .u64 id, .slice V vn vc, .int .u64 tg, .int .i64 k, .int .i64 ef, .int .u64 dr]] W6 fun e w' => e = .returned (.bool bp) ∧ Below W6.heap.size W6 w') := by
      rw [← hbp]
      exact sc_plain ⟨u, 4, 0, vec, tg, k, ef, 0⟩ ⟨u, 4, id, vec, tg, k, ef, dr⟩ V V vn vc vn vc W6 hr6 hr6 (by omega) (by omega)
    have L7 : (Instr.loadAt 38 (.pointer (some ⟨w.heap.size + 1, 0, none⟩))).run Tryd.prog W6 = .ok (.agg #[.int .i64 4, .int .u64 0, .slice V vn vc, .int .u64 tg, .int .i64 k, .int .i64 ef, .int .u64 0]) W6 := callZ_blk hT6 rfl
    have L5 : (Instr.loadAt 38 (.pointer (some ⟨w.heap.size, 0, none⟩))).run Tryd.prog W6 = .ok (.agg #[.int .i64 4, .int .u64 id, .slice V vn vc, .int .u64 tg, .int .i64 k, .int .i64 ef, .int .u64 dr]) W6 := callZ_blk hC6 rfl
    have HC6 := Lib.hid hC6
    have H6 := Lib.hid h6
    obtain ⟨bk, hbk⟩ : ∃ q, (decide (0 ≤ k) && decide (k ≤ 4096)) = q := ⟨_, rfl⟩
    obtain ⟨be, hbe⟩ : ∃ q, (decide (0 ≤ ef) && decide (ef ≤ 4096)) = q := ⟨_, rfl⟩
    have HWK : Hid (∀ W, Calls Tryd.prog 25 #[.int .i64 k] W fun e w' => e = .returned (.bool bk) ∧ w' = W) := fun W => by rw [← hbk]; exact sc_within k W
    have HWE : Hid (∀ W, Calls Tryd.prog 25 #[.int .i64 ef] W fun e w' => e = .returned (.bool be) ∧ w' = W) := fun W => by rw [← hbe]; exact sc_within ef W
    have HFM : Hid (formB ⟨u, 4, id, vec, tg, k, ef, dr⟩ = (bp && bk && be)) := by
      show _ = _
      rw [← hbp, ← hbk, ← hbe]
      exact form4 u id vec tg k ef dr
    have HTX : Hid ((bp && bk && be) = true → BwU W6 B b (acc ++ lineN (⟨u, 4, id, vec, tg, k, ef, dr⟩, 1) ++ [10])) := fun hq => by
      have := H6.out
      have hf : formB ⟨u, 4, id, vec, tg, k, ef, dr⟩ = true := by rw [form4, hbp, hbk, hbe]; exact hq
      simp [formB] at hf
      have e1 : k.toNat = kw := by have h1 := HKW.out; rw [IntKind.wrap_u64] at h1; omega
      have e2 : ef.toNat = ew := by have h1 := HEW.out; rw [IntKind.wrap_u64] at h1; omega
      rw [show lineN (⟨u, 4, id, vec, tg, k, ef, dr⟩, 1) = wordN 4 ++ tailW [u, tg, k.toNat, ef.toNat] ++ tailZ vec from rfl, e1, e2]
      simpa only [List.append_assoc] using this
    clear hT6 hC6 hr6 h6 f6 hbp hbk hbe
    go_wp2_with (first
      | refine wpList_loadE L7 _ rfl rfl rfl ?_
      | refine wpList_loadE L5 _ rfl rfl rfl ?_)
    with_reducible refine HPL.out.mono ?_
    rintro e W7 ⟨rfl, b7⟩
    have c4 : W7.cell? ⟨w.heap.size, 4, none⟩ = some (.int .i64 k) := (b7.cell (p := ⟨w.heap.size, 4, none⟩) HC6.out.lt).trans (HC6.out.cell 4)
    have c5 : W7.cell? ⟨w.heap.size, 5, none⟩ = some (.int .i64 ef) := (b7.cell (p := ⟨w.heap.size, 5, none⟩) HC6.out.lt).trans (HC6.out.cell 5)
    have HB7 : Hid (BwF B b w W7) := HB6.out.trans (BwF.of (Nat.le_trans HBw0.out HB6.out.1.size) b7)
    have HTX7 : Hid ((bp && bk && be) = true → BwU W7 B b (acc ++ lineN (⟨u, 4, id, vec, tg, k, ef, dr⟩, 1) ++ [10])) := fun q => (HTX.out q).below b7
    clear L7 L5 HPL b7 HC6 HTX HB6 HB5 HC5 HT5 H6
    cases bp with
    | false =>
      go_wp2_with fail
      go_ret
      exact ⟨by rw [HFM.out]; rfl, HB7.out, fun q => HTX7.out (by rw [← HFM.out]; exact q)⟩
    | true =>
      cases bk with
      | false =>
        go_wp2_with (go_at_call 25; with_reducible refine (HWK.out _).mono ?_; rintro e w' ⟨rfl, rfl⟩)
        go_ret
        exact ⟨by rw [HFM.out]; rfl, HB7.out, fun q => HTX7.out (by rw [← HFM.out]; exact q)⟩
      | true =>
        go_wp2_with (go_at_call 25; (first | with_reducible refine (HWK.out _).mono ?_ | with_reducible refine (HWE.out _).mono ?_); rintro e w' ⟨rfl, rfl⟩)
        go_ret
        exact ⟨by rw [HFM.out]; rfl, HB7.out, fun q => HTX7.out (by rw [← HFM.out]; exact q)⟩
  · refine wpOp_build (qs := #[(0, .int .u64 u), (1, .int .u64 tg), (2, .int .u64 kw), (3, .int .u64 ew)]) (by rfl) (by kernel_rfl) (by rfl) (by first | kernel_rfl | simp [Act.eval]) (run_us4 _ _ _ _ _) ⟨hH.alloc _, ?_⟩
    (try simp only [List.getElem_toArray, List.getElem_cons_zero, List.getElem_cons_succ, Act.put, List.setIfInBounds_toArray, List.set_cons_zero, List.set_cons_succ])
    refine wpAnyH_all (rs := [3]) (by kernel_rfl) (by simp) (fun i hi => ?_)
    obtain rfl : i = 3 := by simpa using hi
    refine wpOp_call 24 #[.int .i64 4] _ (by rfl) (by kernel_rfl) (by kernel_rfl) (sc_name 4 _) ?_
    rintro e w' ⟨rfl, rfl⟩
    refine ⟨_, rfl, hH.alloc _, ?_⟩
    (try simp only [List.getElem_toArray, List.getElem_cons_zero, List.getElem_cons_succ, Act.put, List.setIfInBounds_toArray, List.set_cons_zero, List.set_cons_succ])
    refine wpAnyH_call 15 9 #[.pointer (some ⟨b, 0, none⟩), .string (bsO (wordN 4)), .slice (some ⟨X4.heap.size, 0, none⟩) 4 4] _ (by kernel_rfl) (by rfl) (by kernel_rfl) (by kernel_rfl) HWD.out ?_
    rintro e W5 ⟨rfl, h5, f5⟩
    refine ⟨_, rfl, f5.blk (hH.alloc _) (by have := HBW.out.lt; omega) (by decide), ?_⟩
    (try simp only [List.getElem_toArray, List.getElem_cons_zero, List.getElem_cons_succ, Act.put, List.setIfInBounds_toArray, List.set_cons_zero, List.set_cons_succ])
    refine wpAnyH_done (by kernel_rfl) ?_ _
    have HB5 : Hid (BwF B b w W5) := (BwF.of HBw0.out (HB4.out.trans ((bel_drewZ X4 _).mono HB4.out.size))).trans f5
    have HC5 : Hid (Blk W5 w.heap.size 38 #[.int .i64 4, .int .u64 id, .slice V vn vc, .int .u64 tg, .int .i64 k, .int .i64 ef, .int .u64 dr]) := f5.blk (HKC4.out.below (bel_drewZ X4 _) HKC4.out.lt) (by have := HBW.out.lt; omega) (by decide)
    have HT5 : Hid (Blk W5 (w.heap.size + 1) 38 #[.int .i64 4, .int .u64 0, .slice V vn vc, .int .u64 tg, .int .i64 k, .int .i64 ef, .int .u64 0]) := f5.blk (HKT4.out.below (bel_drewZ X4 _) HKT4.out.lt) (by have := HBW.out.lt; omega) (by decide)
    have HVC := Lib.hid (bw_vector B b _ vec V vn vc W5 (HB5.out.env HE.out hB8) hB8 (Nat.le_trans HBw0.out HB5.out.1.size) h5.s (HR.out.below HB5.out.1) HR4.out (by
      have h1 := tailW_len [u, tg, kw, ew] HUS.out
      have h2 := wordN_len 4
      rw [List.length_append, List.length_append]
      simp only [List.length_cons, List.length_nil] at h1
      omega) (by omega))
    have v2 : W5.cell? ⟨w.heap.size, 2, none⟩ = some (.slice V vn vc) := HC5.out.cell 2
    clear h5 f5 HWD HKC4 HKT4
    go_wp2_with (go_at_call 10; refine HVC.out.mono ?_)
    rintro e W6 ⟨rfl, h6, f6⟩
    clear v2 HVC
    have hC6 := f6.blk HC5.out (by have := HBW.out.lt; omega) (by decide)
    have hT6 := f6.blk HT5.out (by have := HBW.out.lt; omega) (by decide)
    have HB6 : Hid (BwF B b w W6) := HB5.out.trans f6
    have hr6 : Rd W6 W6.heap.size V vn (vec.map (.int .i32)) := (HR.out.below HB6.out.1).more (Nat.le_trans HBw0.out HB6.out.1.size)
    obtain ⟨bp, hbp⟩ : ∃ q, plainB ⟨u, 4, 0, vec, tg, k, ef, 0⟩ ⟨u, 4, id, vec, tg, k, ef, dr⟩ = q := ⟨_, rfl⟩
    have HPL : Hid (Calls Tryd.prog 23 #[.agg #[.int .i64 4, .int .u64 0, .slice V vn vc, .int .u64 tg, .int .i64 k, .int .i64 ef, .int .u64 0], .agg #[.int .i64 4, .int .u64 id, .slice V vn vc, .int .u64 tg, .int .i64 k, .int .i64 ef, .int .u64 dr]] W6 fun e w' => e = .returned (.bool bp) ∧ Below W6.heap.size W6 w') := by
      rw [← hbp]
      exact sc_plain ⟨u, 4, 0, vec, tg, k, ef, 0⟩ ⟨u, 4, id, vec, tg, k, ef, dr⟩ V V vn vc vn vc W6 hr6 hr6 (by omega) (by omega)
    have L7 : (Instr.loadAt 38 (.pointer (some ⟨w.heap.size + 1, 0, none⟩))).run Tryd.prog W6 = .ok (.agg #[.int .i64 4, .int .u64 0, .slice V vn vc, .int .u64 tg, .int .i64 k, .int .i64 ef, .int .u64 0]) W6 := callZ_blk hT6 rfl
    have L5 : (Instr.loadAt 38 (.pointer (some ⟨w.heap.size, 0, none⟩))).run Tryd.prog W6 = .ok (.agg #[.int .i64 4, .int .u64 id, .slice V vn vc, .int .u64 tg, .int .i64 k, .int .i64 ef, .int .u64 dr]) W6 := callZ_blk hC6 rfl
    have HC6 := Lib.hid hC6
    have H6 := Lib.hid h6
    obtain ⟨bk, hbk⟩ : ∃ q, (decide (0 ≤ k) && decide (k ≤ 4096)) = q := ⟨_, rfl⟩
    obtain ⟨be, hbe⟩ : ∃ q, (decide (0 ≤ ef) && decide (ef ≤ 4096)) = q := ⟨_, rfl⟩
    have HWK : Hid (∀ W, Calls Tryd.prog 25 #[.int .i64 k] W fun e w' => e = .returned (.bool bk) ∧ w' = W) := fun W => by rw [← hbk]; exact sc_within k W
    have HWE : Hid (∀ W, Calls Tryd.prog 25 #[.int .i64 ef] W fun e w' => e = .returned (.bool be) ∧ w' = W) := fun W => by rw [← hbe]; exact sc_within ef W
    have HFM : Hid (formB ⟨u, 4, id, vec, tg, k, ef, dr⟩ = (bp && bk && be)) := by
      show _ = _
      rw [← hbp, ← hbk, ← hbe]
      exact form4 u id vec tg k ef dr
    have HTX : Hid ((bp && bk && be) = true → BwU W6 B b (acc ++ lineN (⟨u, 4, id, vec, tg, k, ef, dr⟩, 1) ++ [10])) := fun hq => by
      have := H6.out
      have hf : formB ⟨u, 4, id, vec, tg, k, ef, dr⟩ = true := by rw [form4, hbp, hbk, hbe]; exact hq
      simp [formB] at hf
      have e1 : k.toNat = kw := by have h1 := HKW.out; rw [IntKind.wrap_u64] at h1; omega
      have e2 : ef.toNat = ew := by have h1 := HEW.out; rw [IntKind.wrap_u64] at h1; omega
      rw [show lineN (⟨u, 4, id, vec, tg, k, ef, dr⟩, 1) = wordN 4 ++ tailW [u, tg, k.toNat, ef.toNat] ++ tailZ vec from rfl, e1, e2]
      simpa only [List.append_assoc] using this
    clear hT6 hC6 hr6 h6 f6 hbp hbk hbe
    go_wp2_with (first
      | refine wpList_loadE L7 _ rfl rfl rfl ?_
      | refine wpList_loadE L5 _ rfl rfl rfl ?_)
    with_reducible refine HPL.out.mono ?_
    rintro e W7 ⟨rfl, b7⟩
    have c4 : W7.cell? ⟨w.heap.size, 4, none⟩ = some (.int .i64 k) := (b7.cell (p := ⟨w.heap.size, 4, none⟩) HC6.out.lt).trans (HC6.out.cell 4)
    have c5 : W7.cell? ⟨w.heap.size, 5, none⟩ = some (.int .i64 ef) := (b7.cell (p := ⟨w.heap.size, 5, none⟩) HC6.out.lt).trans (HC6.out.cell 5)
    have HB7 : Hid (BwF B b w W7) := HB6.out.trans (BwF.of (Nat.le_trans HBw0.out HB6.out.1.size) b7)
    have HTX7 : Hid ((bp && bk && be) = true → BwU W7 B b (acc ++ lineN (⟨u, 4, id, vec, tg, k, ef, dr⟩, 1) ++ [10])) := fun q => (HTX.out q).below b7
    clear L7 L5 HPL b7 HC6 HTX HB6 HB5 HC5 HT5 H6
    cases bp with
    | false =>
      go_wp2_with fail
      go_ret
      exact ⟨by rw [HFM.out]; rfl, HB7.out, fun q => HTX7.out (by rw [← HFM.out]; exact q)⟩
    | true =>
      cases bk with
      | false =>
        go_wp2_with (go_at_call 25; with_reducible refine (HWK.out _).mono ?_; rintro e w' ⟨rfl, rfl⟩)
        go_ret
        exact ⟨by rw [HFM.out]; rfl, HB7.out, fun q => HTX7.out (by rw [← HFM.out]; exact q)⟩
      | true =>
        go_wp2_with (go_at_call 25; (first | with_reducible refine (HWK.out _).mono ?_ | with_reducible refine (HWE.out _).mono ?_); rintro e w' ⟨rfl, rfl⟩)
        go_ret
        exact ⟨by rw [HFM.out]; rfl, HB7.out, fun q => HTX7.out (by rw [← HFM.out]; exact q)⟩
set_option maxHeartbeats 16000000 in
set_option maxRecDepth 100000 in
theorem bw_call2 (B b : Nat) (acc : List UInt8) (a : SAct) (hk : a.kd = 2) (V : Option Addr) (vn vc : Nat) (w : World) (he : Env w) (hB8 : 8 ≤ B) (hBw : B ≤ w.heap.size) (h : BwS w B b acc) (hr : Rd w B V vn (a.vec.map (.int .i32))) (hrng : a.Rng) (u : Nat) (hwk : a.wk = u) (hu64 : u ≤ 64) (hvn : vn ≤ 1048576) (hlen : acc.length ≤ 109951162777) :
    Calls Tryd.prog 12 #[.pointer (some ⟨b, 0, none⟩), .int .u64 u, .agg (callC a V vn vc)] w fun e w' => e = .returned (.bool (formB a)) ∧ BwF B b w w' ∧ (formB a = true → BwU w' B b (acc ++ lineN (a, 1) ++ [10])) := by
  obtain ⟨wk, kd, id, vec, tg, k, ef, dr⟩ := a
  simp only at hk hr hwk
  subst hk
  subst hwk
  unfold callC
  simp only
  obtain ⟨r1, r2, r3, r4⟩ := hrng
  simp only at r1 r2 r3 r4
  have HBw0 := Lib.hid hBw
  have HE := Lib.hid he
  have HR := Lib.hid hr
  have HBW := Lib.hid h
  have HR4 := Lib.hid r4
  have HVN := Lib.hid hr.lenI
  have HUS : Hid (∀ x ∈ ([u, id] : List Nat), x < 18446744073709551616) := by
    show ∀ x ∈ ([u, id] : List Nat), x < 18446744073709551616
    skip
    skip
    intro x hx
    simp only [List.mem_cons, List.not_mem_nil, or_false] at hx
    rcases hx with rfl | rfl <;> omega
  obtain ⟨W2, hW2, KC, KT, HB, hsz⟩ := two_boxes w #[.int .i64 2, .int .u64 id, .slice V vn vc, .int .u64 tg, .int .i64 k, .int .i64 ef, .int .u64 dr] #[.int .i64 2, .int .u64 0, .slice none 0 0, .int .u64 0, .int .i64 0, .int .i64 0, .int .u64 0]
  have HKC := Lib.hid KC
  have HKT := Lib.hid KT
  have HBL := Lib.hid HB
  have HSZ := Lib.hid hsz
  have HW2 := Lib.hid hW2
  clear KC KT HB hsz hW2 r1 r2 r3 r4 he hr h
  go_enter Tryd.func12, Tryd.ntmps12
  obtain ⟨W4, hst4, hT4, hg4⟩ := stZ (i := 1) (ty := 33) (v := .int .u64 id) (P := Tryd.prog) HKT.out (show 1 < 7 by omega) (fun W h1 h2 => stZ_u64 W h1 h2)
  have hC4 := HKC.out.grown hg4 (fun e => by injection e with e; omega)
  have LD : (Instr.loadAt 33 (.pointer (some ⟨w.heap.size, 1, none⟩))).run Tryd.prog W2 = .ok (.int .u64 id) W2 := loadZ_u64 (HKC.out.cell 1)
  have hG4 := hg4
  go_upto_region 14 with fail
  rw [HW2.out]
  clear HW2
  go_wp2_with (first | refine wpList_loadE LD _ rfl rfl rfl ?_ | refine wpList_storeE hst4 _ _ rfl rfl rfl rfl ?_)
  clear LD hst4 hg4
  have HKC4 : Hid (Blk W4 w.heap.size 38 #[.int .i64 2, .int .u64 id, .slice V vn vc, .int .u64 tg, .int .i64 k, .int .i64 ef, .int .u64 dr]) := hC4
  have HKT4 : Hid (Blk W4 (w.heap.size + 1) 38 #[.int .i64 2, .int .u64 id, .slice none 0 0, .int .u64 0, .int .i64 0, .int .i64 0, .int .u64 0]) := hT4
  have HB4 : Hid (Below w.heap.size w W4) := (HBL.out.trans (below_of_only hG4 (by have := HSZ.out; omega) (by omega)))
  have HSZ4 : Hid (w.heap.size + 2 ≤ W4.heap.size) := by show _ ≤ _; have h1 := HSZ.out; have h2 := hG4.size; omega
  clear hC4 hT4 hG4 HKC HKT HBL HSZ
  have HWD : Hid (Calls Tryd.prog 9 #[.pointer (some ⟨b, 0, none⟩), .string (bsO (wordN 2)), .slice (some ⟨W4.heap.size, 0, none⟩) 2 2] (W4.drew.alloc (.cells #[.int .u64 u, .int .u64 id] 33)) fun e w' => e = .returned (.tuple #[]) ∧ BwU w' B b (acc ++ wordN 2 ++ tailW [u, id]) ∧ BwF B b (W4.drew.alloc (.cells #[.int .u64 u, .int .u64 id] 33)) w') := by
    have hw := wordN_len 2
    have hb := (HBW.out.below HB4.out)
    have hlt := hb.lt
    refine bw_word B b W4.heap.size acc (wordN 2) [u, id] 2 2 rfl _ (HE.out.on (HB4.out.trans ((bel_drewZ W4 _).mono HB4.out.size))) hB8 (by have := HB4.out.size; rw [alloc_sizeX]; show B ≤ W4.heap.size + 1; omega) (hb.below (bel_drewZ W4 _)) (row_blk W4.drew [u, id]) (by omega) HUS.out (by omega) (by omega)
  refine wp_region_held_drew (S := fun W => Blk W w.heap.size 38 #[.int .i64 2, .int .u64 id, .slice V vn vc, .int .u64 tg, .int .i64 k, .int .i64 ef, .int .u64 dr]) (by kernel_rfl) HKC4.out (fun hH => ?_)
  refine wpAnyH_take (i := 0) (v := .pointer (some ⟨b, 0, none⟩)) rfl (by kernel_rfl) (by kernel_rfl) (by kernel_rfl) (fun _ _ _ h => h) (.inl ⟨by rfl, fun _ _ => by kernel_rfl⟩) hH ?_
  (try simp only [List.getElem_toArray, List.getElem_cons_zero, Act.put, List.setIfInBounds_toArray, List.set_cons_zero, List.set_cons_succ])
  refine wpAnyH_take (i := 1) (v := .pointer (some ⟨w.heap.size, 0, none⟩)) rfl (by kernel_rfl) (by kernel_rfl) (by kernel_rfl) (fun _ _ _ h => h) (.inl ⟨by rfl, fun _ _ => by kernel_rfl⟩) hH ?_
  (try simp only [List.getElem_toArray, List.getElem_cons_zero, List.getElem_cons_succ, Act.put, List.setIfInBounds_toArray, List.set_cons_zero, List.set_cons_succ])
  refine wpAnyH_take (i := 2) (v := .int .i64 2) rfl (by kernel_rfl) (by kernel_rfl) (by kernel_rfl) (fun _ _ _ h => h) (yieldsIf_loadP (by rfl) _ rfl rfl (fun _ q => loadY_int (q.cell 0))) hH ?_
  (try simp only [List.getElem_toArray, List.getElem_cons_zero, List.getElem_cons_succ, Act.put, List.setIfInBounds_toArray, List.set_cons_zero, List.set_cons_succ])
  refine wpAnyH_take (i := 4) (v := .int .u64 u) rfl (by kernel_rfl) (by kernel_rfl) (by kernel_rfl) (fun _ _ _ h => h) (.inl ⟨by rfl, fun _ _ => by kernel_rfl⟩) hH ?_
  (try simp only [List.getElem_toArray, List.getElem_cons_zero, List.getElem_cons_succ, Act.put, List.setIfInBounds_toArray, List.set_cons_zero, List.set_cons_succ])
  refine wpAnyH_take (i := 5) (v := .pointer (some ⟨w.heap.size, 1, none⟩)) rfl (by kernel_rfl) (by kernel_rfl) (by kernel_rfl) (fun _ _ _ h => h) (.inl ⟨by rfl, fun _ _ => by kernel_rfl⟩) hH ?_
  (try simp only [List.getElem_toArray, List.getElem_cons_zero, List.getElem_cons_succ, Act.put, List.setIfInBounds_toArray, List.set_cons_zero, List.set_cons_succ])
  refine wpAnyH_take (i := 6) (v := .pointer (some ⟨w.heap.size, 1, none⟩)) rfl (by kernel_rfl) (by kernel_rfl) (by kernel_rfl) (fun _ _ _ h => h) (.inl ⟨by rfl, fun _ _ => by kernel_rfl⟩) hH ?_
  (try simp only [List.getElem_toArray, List.getElem_cons_zero, List.getElem_cons_succ, Act.put, List.setIfInBounds_toArray, List.set_cons_zero, List.set_cons_succ])
  refine wpAnyH_take (i := 7) (v := .int .u64 id) rfl (by kernel_rfl) (by kernel_rfl) (by kernel_rfl) (fun _ _ _ h => h) (yieldsIf_loadP (by rfl) _ rfl rfl (fun _ q => loadZ_u64 (q.cell 1))) hH ?_
  (try simp only [List.getElem_toArray, List.getElem_cons_zero, List.getElem_cons_succ, Act.put, List.setIfInBounds_toArray, List.set_cons_zero, List.set_cons_succ])
  refine wpAnyH_all (rs := [3, 8]) (by kernel_rfl) (by simp) (fun i hi => ?_)
  rcases (by simpa using hi : i = 3 ∨ i = 8) with rfl | rfl
  · refine wpOp_call 24 #[.int .i64 2] _ (by rfl) (by kernel_rfl) (by kernel_rfl) (sc_name 2 _) ?_
    rintro e w' ⟨rfl, rfl⟩
    refine ⟨_, rfl, hH, ?_⟩
    (try simp only [List.getElem_toArray, List.getElem_cons_zero, List.getElem_cons_succ, Act.put, List.setIfInBounds_toArray, List.set_cons_zero, List.set_cons_succ])
    refine wpAnyH_all (rs := [8]) (by kernel_rfl) (by simp) (fun i hi => ?_)
    obtain rfl : i = 8 := by simpa using hi
    refine wpOp_build (qs := #[(0, .int .u64 u), (1, .int .u64 id)]) (by rfl) (by kernel_rfl) (by rfl) (by first | kernel_rfl | simp [Act.eval]) (run_us2 _ _ _) ⟨hH.alloc _, ?_⟩
    (try simp only [List.getElem_toArray, List.getElem_cons_zero, List.getElem_cons_succ, Act.put, List.setIfInBounds_toArray, List.set_cons_zero, List.set_cons_succ])
    refine wpAnyH_call 9 9 #[.pointer (some ⟨b, 0, none⟩), .string (bsO (wordN 2)), .slice (some ⟨W4.heap.size, 0, none⟩) 2 2] _ (by kernel_rfl) (by rfl) (by kernel_rfl) (by kernel_rfl) HWD.out ?_
    rintro e W5 ⟨rfl, h5, f5⟩
    refine ⟨_, rfl, f5.blk (hH.alloc _) (by have := HBW.out.lt; omega) (by decide), ?_⟩
    (try simp only [List.getElem_toArray, List.getElem_cons_zero, List.getElem_cons_succ, Act.put, List.setIfInBounds_toArray, List.set_cons_zero, List.set_cons_succ])
    refine wpAnyH_done (by kernel_rfl) ?_ _
    have HB5 : Hid (BwF B b w W5) := (BwF.of HBw0.out (HB4.out.trans ((bel_drewZ W4 _).mono HB4.out.size))).trans f5
    have HC5 : Hid (Blk W5 w.heap.size 38 #[.int .i64 2, .int .u64 id, .slice V vn vc, .int .u64 tg, .int .i64 k, .int .i64 ef, .int .u64 dr]) := f5.blk (HKC4.out.below (bel_drewZ W4 _) HKC4.out.lt) (by have := HBW.out.lt; omega) (by decide)
    have HT5 : Hid (Blk W5 (w.heap.size + 1) 38 #[.int .i64 2, .int .u64 id, .slice none 0 0, .int .u64 0, .int .i64 0, .int .i64 0, .int .u64 0]) := f5.blk (HKT4.out.below (bel_drewZ W4 _) HKT4.out.lt) (by have := HBW.out.lt; omega) (by decide)
    have HVC := Lib.hid (bw_vector B b _ [] none 0 0 W5 (HB5.out.env HE.out hB8) hB8 (Nat.le_trans HBw0.out HB5.out.1.size) h5.s Rd.nil_ (by simp) (by
      have h1 := tailW_len [u, id] HUS.out
      have h2 := wordN_len 2
      rw [List.length_append, List.length_append]
      simp only [List.length_cons, List.length_nil] at h1
      omega) (by omega))
    have v2 : W5.cell? ⟨w.heap.size, 2, none⟩ = some (.slice V vn vc) := HC5.out.cell 2
    clear h5 f5 HWD HKC4 HKT4
    go_wp2_with (go_at_call 10; refine HVC.out.mono ?_)
    rintro e W6 ⟨rfl, h6, f6⟩
    clear v2 HVC
    have hC6 := f6.blk HC5.out (by have := HBW.out.lt; omega) (by decide)
    have hT6 := f6.blk HT5.out (by have := HBW.out.lt; omega) (by decide)
    have HB6 : Hid (BwF B b w W6) := HB5.out.trans f6
    have hr6 : Rd W6 W6.heap.size V vn (vec.map (.int .i32)) := (HR.out.below HB6.out.1).more (Nat.le_trans HBw0.out HB6.out.1.size)
    obtain ⟨bp, hbp⟩ : ∃ q, plainB ⟨u, 2, id, [], 0, 0, 0, 0⟩ ⟨u, 2, id, vec, tg, k, ef, dr⟩ = q := ⟨_, rfl⟩
    have HPL : Hid (Calls Tryd.prog 23 #[.agg #[.int .i64 2, .int .u64 id, .slice none 0 0, .int .u64 0, .int .i64 0, .int .i64 0, .int .u64 0], .agg #[.int .i64 2, .int .u64 id, .slice V vn vc, .int .u64 tg, .int .i64 k, .int .i64 ef, .int .u64 dr]] W6 fun e w' => e = .returned (.bool bp) ∧ Below W6.heap.size W6 w') := by
      rw [← hbp]
      exact sc_plain ⟨u, 2, id, [], 0, 0, 0, 0⟩ ⟨u, 2, id, vec, tg, k, ef, dr⟩ none V 0 0 vn vc W6 Rd.nil_ hr6 (by omega) (by omega)
    have L7 : (Instr.loadAt 38 (.pointer (some ⟨w.heap.size + 1, 0, none⟩))).run Tryd.prog W6 = .ok (.agg #[.int .i64 2, .int .u64 id, .slice none 0 0, .int .u64 0, .int .i64 0, .int .i64 0, .int .u64 0]) W6 := callZ_blk hT6 rfl
    have L5 : (Instr.loadAt 38 (.pointer (some ⟨w.heap.size, 0, none⟩))).run Tryd.prog W6 = .ok (.agg #[.int .i64 2, .int .u64 id, .slice V vn vc, .int .u64 tg, .int .i64 k, .int .i64 ef, .int .u64 dr]) W6 := callZ_blk hC6 rfl
    have HC6 := Lib.hid hC6
    have H6 := Lib.hid h6
    obtain ⟨bk, hbk⟩ : ∃ q, (decide (0 ≤ k) && decide (k ≤ 4096)) = q := ⟨_, rfl⟩
    obtain ⟨be, hbe⟩ : ∃ q, (decide (0 ≤ ef) && decide (ef ≤ 4096)) = q := ⟨_, rfl⟩
    have HWK : Hid (∀ W, Calls Tryd.prog 25 #[.int .i64 k] W fun e w' => e = .returned (.bool bk) ∧ w' = W) := fun W => by rw [← hbk]; exact sc_within k W
    have HWE : Hid (∀ W, Calls Tryd.prog 25 #[.int .i64 ef] W fun e w' => e = .returned (.bool be) ∧ w' = W) := fun W => by rw [← hbe]; exact sc_within ef W
    have HFM : Hid (formB ⟨u, 2, id, vec, tg, k, ef, dr⟩ = (bp && bk && be)) := by
      show _ = _
      rw [← hbp, ← hbk, ← hbe]
      exact form2 u id vec tg k ef dr
    have HTX : Hid ((bp && bk && be) = true → BwU W6 B b (acc ++ lineN (⟨u, 2, id, vec, tg, k, ef, dr⟩, 1) ++ [10])) := fun hq => by
      have := H6.out
      rw [show lineN (⟨u, 2, id, vec, tg, k, ef, dr⟩, 1) = wordN 2 ++ tailW [u, id] from rfl]
      simpa only [List.append_assoc, tailZ, List.nil_append] using this
    clear hT6 hC6 hr6 h6 f6 hbp hbk hbe
    go_wp2_with (first
      | refine wpList_loadE L7 _ rfl rfl rfl ?_
      | refine wpList_loadE L5 _ rfl rfl rfl ?_)
    with_reducible refine HPL.out.mono ?_
    rintro e W7 ⟨rfl, b7⟩
    have c4 : W7.cell? ⟨w.heap.size, 4, none⟩ = some (.int .i64 k) := (b7.cell (p := ⟨w.heap.size, 4, none⟩) HC6.out.lt).trans (HC6.out.cell 4)
    have c5 : W7.cell? ⟨w.heap.size, 5, none⟩ = some (.int .i64 ef) := (b7.cell (p := ⟨w.heap.size, 5, none⟩) HC6.out.lt).trans (HC6.out.cell 5)
    have HB7 : Hid (BwF B b w W7) := HB6.out.trans (BwF.of (Nat.le_trans HBw0.out HB6.out.1.size) b7)
    have HTX7 : Hid ((bp && bk && be) = true → BwU W7 B b (acc ++ lineN (⟨u, 2, id, vec, tg, k, ef, dr⟩, 1) ++ [10])) := fun q => (HTX.out q).below b7
    clear L7 L5 HPL b7 HC6 HTX HB6 HB5 HC5 HT5 H6
    cases bp with
    | false =>
      go_wp2_with fail
      go_ret
      exact ⟨by rw [HFM.out]; rfl, HB7.out, fun q => HTX7.out (by rw [← HFM.out]; exact q)⟩
    | true =>
      cases bk with
      | false =>
        go_wp2_with (go_at_call 25; with_reducible refine (HWK.out _).mono ?_; rintro e w' ⟨rfl, rfl⟩)
        go_ret
        exact ⟨by rw [HFM.out]; rfl, HB7.out, fun q => HTX7.out (by rw [← HFM.out]; exact q)⟩
      | true =>
        go_wp2_with (go_at_call 25; (first | with_reducible refine (HWK.out _).mono ?_ | with_reducible refine (HWE.out _).mono ?_); rintro e w' ⟨rfl, rfl⟩)
        go_ret
        exact ⟨by rw [HFM.out]; rfl, HB7.out, fun q => HTX7.out (by rw [← HFM.out]; exact q)⟩
  · refine wpOp_build (qs := #[(0, .int .u64 u), (1, .int .u64 id)]) (by rfl) (by kernel_rfl) (by rfl) (by first | kernel_rfl | simp [Act.eval]) (run_us2 _ _ _) ⟨hH.alloc _, ?_⟩
    (try simp only [List.getElem_toArray, List.getElem_cons_zero, List.getElem_cons_succ, Act.put, List.setIfInBounds_toArray, List.set_cons_zero, List.set_cons_succ])
    refine wpAnyH_all (rs := [3]) (by kernel_rfl) (by simp) (fun i hi => ?_)
    obtain rfl : i = 3 := by simpa using hi
    refine wpOp_call 24 #[.int .i64 2] _ (by rfl) (by kernel_rfl) (by kernel_rfl) (sc_name 2 _) ?_
    rintro e w' ⟨rfl, rfl⟩
    refine ⟨_, rfl, hH.alloc _, ?_⟩
    (try simp only [List.getElem_toArray, List.getElem_cons_zero, List.getElem_cons_succ, Act.put, List.setIfInBounds_toArray, List.set_cons_zero, List.set_cons_succ])
    refine wpAnyH_call 9 9 #[.pointer (some ⟨b, 0, none⟩), .string (bsO (wordN 2)), .slice (some ⟨W4.heap.size, 0, none⟩) 2 2] _ (by kernel_rfl) (by rfl) (by kernel_rfl) (by kernel_rfl) HWD.out ?_
    rintro e W5 ⟨rfl, h5, f5⟩
    refine ⟨_, rfl, f5.blk (hH.alloc _) (by have := HBW.out.lt; omega) (by decide), ?_⟩
    (try simp only [List.getElem_toArray, List.getElem_cons_zero, List.getElem_cons_succ, Act.put, List.setIfInBounds_toArray, List.set_cons_zero, List.set_cons_succ])
    refine wpAnyH_done (by kernel_rfl) ?_ _
    have HB5 : Hid (BwF B b w W5) := (BwF.of HBw0.out (HB4.out.trans ((bel_drewZ W4 _).mono HB4.out.size))).trans f5
    have HC5 : Hid (Blk W5 w.heap.size 38 #[.int .i64 2, .int .u64 id, .slice V vn vc, .int .u64 tg, .int .i64 k, .int .i64 ef, .int .u64 dr]) := f5.blk (HKC4.out.below (bel_drewZ W4 _) HKC4.out.lt) (by have := HBW.out.lt; omega) (by decide)
    have HT5 : Hid (Blk W5 (w.heap.size + 1) 38 #[.int .i64 2, .int .u64 id, .slice none 0 0, .int .u64 0, .int .i64 0, .int .i64 0, .int .u64 0]) := f5.blk (HKT4.out.below (bel_drewZ W4 _) HKT4.out.lt) (by have := HBW.out.lt; omega) (by decide)
    have HVC := Lib.hid (bw_vector B b _ [] none 0 0 W5 (HB5.out.env HE.out hB8) hB8 (Nat.le_trans HBw0.out HB5.out.1.size) h5.s Rd.nil_ (by simp) (by
      have h1 := tailW_len [u, id] HUS.out
      have h2 := wordN_len 2
      rw [List.length_append, List.length_append]
      simp only [List.length_cons, List.length_nil] at h1
      omega) (by omega))
    have v2 : W5.cell? ⟨w.heap.size, 2, none⟩ = some (.slice V vn vc) := HC5.out.cell 2
    clear h5 f5 HWD HKC4 HKT4
    go_wp2_with (go_at_call 10; refine HVC.out.mono ?_)
    rintro e W6 ⟨rfl, h6, f6⟩
    clear v2 HVC
    have hC6 := f6.blk HC5.out (by have := HBW.out.lt; omega) (by decide)
    have hT6 := f6.blk HT5.out (by have := HBW.out.lt; omega) (by decide)
    have HB6 : Hid (BwF B b w W6) := HB5.out.trans f6
    have hr6 : Rd W6 W6.heap.size V vn (vec.map (.int .i32)) := (HR.out.below HB6.out.1).more (Nat.le_trans HBw0.out HB6.out.1.size)
    obtain ⟨bp, hbp⟩ : ∃ q, plainB ⟨u, 2, id, [], 0, 0, 0, 0⟩ ⟨u, 2, id, vec, tg, k, ef, dr⟩ = q := ⟨_, rfl⟩
    have HPL : Hid (Calls Tryd.prog 23 #[.agg #[.int .i64 2, .int .u64 id, .slice none 0 0, .int .u64 0, .int .i64 0, .int .i64 0, .int .u64 0], .agg #[.int .i64 2, .int .u64 id, .slice V vn vc, .int .u64 tg, .int .i64 k, .int .i64 ef, .int .u64 dr]] W6 fun e w' => e = .returned (.bool bp) ∧ Below W6.heap.size W6 w') := by
      rw [← hbp]
      exact sc_plain ⟨u, 2, id, [], 0, 0, 0, 0⟩ ⟨u, 2, id, vec, tg, k, ef, dr⟩ none V 0 0 vn vc W6 Rd.nil_ hr6 (by omega) (by omega)
    have L7 : (Instr.loadAt 38 (.pointer (some ⟨w.heap.size + 1, 0, none⟩))).run Tryd.prog W6 = .ok (.agg #[.int .i64 2, .int .u64 id, .slice none 0 0, .int .u64 0, .int .i64 0, .int .i64 0, .int .u64 0]) W6 := callZ_blk hT6 rfl
    have L5 : (Instr.loadAt 38 (.pointer (some ⟨w.heap.size, 0, none⟩))).run Tryd.prog W6 = .ok (.agg #[.int .i64 2, .int .u64 id, .slice V vn vc, .int .u64 tg, .int .i64 k, .int .i64 ef, .int .u64 dr]) W6 := callZ_blk hC6 rfl
    have HC6 := Lib.hid hC6
    have H6 := Lib.hid h6
    obtain ⟨bk, hbk⟩ : ∃ q, (decide (0 ≤ k) && decide (k ≤ 4096)) = q := ⟨_, rfl⟩
    obtain ⟨be, hbe⟩ : ∃ q, (decide (0 ≤ ef) && decide (ef ≤ 4096)) = q := ⟨_, rfl⟩
    have HWK : Hid (∀ W, Calls Tryd.prog 25 #[.int .i64 k] W fun e w' => e = .returned (.bool bk) ∧ w' = W) := fun W => by rw [← hbk]; exact sc_within k W
    have HWE : Hid (∀ W, Calls Tryd.prog 25 #[.int .i64 ef] W fun e w' => e = .returned (.bool be) ∧ w' = W) := fun W => by rw [← hbe]; exact sc_within ef W
    have HFM : Hid (formB ⟨u, 2, id, vec, tg, k, ef, dr⟩ = (bp && bk && be)) := by
      show _ = _
      rw [← hbp, ← hbk, ← hbe]
      exact form2 u id vec tg k ef dr
    have HTX : Hid ((bp && bk && be) = true → BwU W6 B b (acc ++ lineN (⟨u, 2, id, vec, tg, k, ef, dr⟩, 1) ++ [10])) := fun hq => by
      have := H6.out
      rw [show lineN (⟨u, 2, id, vec, tg, k, ef, dr⟩, 1) = wordN 2 ++ tailW [u, id] from rfl]
      simpa only [List.append_assoc, tailZ, List.nil_append] using this
    clear hT6 hC6 hr6 h6 f6 hbp hbk hbe
    go_wp2_with (first
      | refine wpList_loadE L7 _ rfl rfl rfl ?_
      | refine wpList_loadE L5 _ rfl rfl rfl ?_)
    with_reducible refine HPL.out.mono ?_
    rintro e W7 ⟨rfl, b7⟩
    have c4 : W7.cell? ⟨w.heap.size, 4, none⟩ = some (.int .i64 k) := (b7.cell (p := ⟨w.heap.size, 4, none⟩) HC6.out.lt).trans (HC6.out.cell 4)
    have c5 : W7.cell? ⟨w.heap.size, 5, none⟩ = some (.int .i64 ef) := (b7.cell (p := ⟨w.heap.size, 5, none⟩) HC6.out.lt).trans (HC6.out.cell 5)
    have HB7 : Hid (BwF B b w W7) := HB6.out.trans (BwF.of (Nat.le_trans HBw0.out HB6.out.1.size) b7)
    have HTX7 : Hid ((bp && bk && be) = true → BwU W7 B b (acc ++ lineN (⟨u, 2, id, vec, tg, k, ef, dr⟩, 1) ++ [10])) := fun q => (HTX.out q).below b7
    clear L7 L5 HPL b7 HC6 HTX HB6 HB5 HC5 HT5 H6
    cases bp with
    | false =>
      go_wp2_with fail
      go_ret
      exact ⟨by rw [HFM.out]; rfl, HB7.out, fun q => HTX7.out (by rw [← HFM.out]; exact q)⟩
    | true =>
      cases bk with
      | false =>
        go_wp2_with (go_at_call 25; with_reducible refine (HWK.out _).mono ?_; rintro e w' ⟨rfl, rfl⟩)
        go_ret
        exact ⟨by rw [HFM.out]; rfl, HB7.out, fun q => HTX7.out (by rw [← HFM.out]; exact q)⟩
      | true =>
        go_wp2_with (go_at_call 25; (first | with_reducible refine (HWK.out _).mono ?_ | with_reducible refine (HWE.out _).mono ?_); rintro e w' ⟨rfl, rfl⟩)
        go_ret
        exact ⟨by rw [HFM.out]; rfl, HB7.out, fun q => HTX7.out (by rw [← HFM.out]; exact q)⟩
set_option maxHeartbeats 16000000 in
set_option maxRecDepth 100000 in
theorem bw_call3 (B b : Nat) (acc : List UInt8) (a : SAct) (hk : a.kd = 3) (V : Option Addr) (vn vc : Nat) (w : World) (he : Env w) (hB8 : 8 ≤ B) (hBw : B ≤ w.heap.size) (h : BwS w B b acc) (hr : Rd w B V vn (a.vec.map (.int .i32))) (hrng : a.Rng) (u : Nat) (hwk : a.wk = u) (hu64 : u ≤ 64) (hvn : vn ≤ 1048576) (hlen : acc.length ≤ 109951162777) :
    Calls Tryd.prog 12 #[.pointer (some ⟨b, 0, none⟩), .int .u64 u, .agg (callC a V vn vc)] w fun e w' => e = .returned (.bool (formB a)) ∧ BwF B b w w' ∧ (formB a = true → BwU w' B b (acc ++ lineN (a, 1) ++ [10])) := by
  obtain ⟨wk, kd, id, vec, tg, k, ef, dr⟩ := a
  simp only at hk hr hwk
  subst hk
  subst hwk
  unfold callC
  simp only
  obtain ⟨r1, r2, r3, r4⟩ := hrng
  simp only at r1 r2 r3 r4
  have HBw0 := Lib.hid hBw
  have HE := Lib.hid he
  have HR := Lib.hid hr
  have HBW := Lib.hid h
  have HR4 := Lib.hid r4
  have HVN := Lib.hid hr.lenI
  have HUS : Hid (∀ x ∈ ([u, id] : List Nat), x < 18446744073709551616) := by
    show ∀ x ∈ ([u, id] : List Nat), x < 18446744073709551616
    skip
    skip
    intro x hx
    simp only [List.mem_cons, List.not_mem_nil, or_false] at hx
    rcases hx with rfl | rfl <;> omega
  obtain ⟨W2, hW2, KC, KT, HB, hsz⟩ := two_boxes w #[.int .i64 3, .int .u64 id, .slice V vn vc, .int .u64 tg, .int .i64 k, .int .i64 ef, .int .u64 dr] #[.int .i64 3, .int .u64 0, .slice none 0 0, .int .u64 0, .int .i64 0, .int .i64 0, .int .u64 0]
  have HKC := Lib.hid KC
  have HKT := Lib.hid KT
  have HBL := Lib.hid HB
  have HSZ := Lib.hid hsz
  have HW2 := Lib.hid hW2
  clear KC KT HB hsz hW2 r1 r2 r3 r4 he hr h
  go_enter Tryd.func12, Tryd.ntmps12
  obtain ⟨W4, hst4, hT4, hg4⟩ := stZ (i := 1) (ty := 33) (v := .int .u64 id) (P := Tryd.prog) HKT.out (show 1 < 7 by omega) (fun W h1 h2 => stZ_u64 W h1 h2)
  have hC4 := HKC.out.grown hg4 (fun e => by injection e with e; omega)
  have LD : (Instr.loadAt 33 (.pointer (some ⟨w.heap.size, 1, none⟩))).run Tryd.prog W2 = .ok (.int .u64 id) W2 := loadZ_u64 (HKC.out.cell 1)
  have hG4 := hg4
  go_upto_region 14 with fail
  rw [HW2.out]
  clear HW2
  go_wp2_with (first | refine wpList_loadE LD _ rfl rfl rfl ?_ | refine wpList_storeE hst4 _ _ rfl rfl rfl rfl ?_)
  clear LD hst4 hg4
  have HKC4 : Hid (Blk W4 w.heap.size 38 #[.int .i64 3, .int .u64 id, .slice V vn vc, .int .u64 tg, .int .i64 k, .int .i64 ef, .int .u64 dr]) := hC4
  have HKT4 : Hid (Blk W4 (w.heap.size + 1) 38 #[.int .i64 3, .int .u64 id, .slice none 0 0, .int .u64 0, .int .i64 0, .int .i64 0, .int .u64 0]) := hT4
  have HB4 : Hid (Below w.heap.size w W4) := (HBL.out.trans (below_of_only hG4 (by have := HSZ.out; omega) (by omega)))
  have HSZ4 : Hid (w.heap.size + 2 ≤ W4.heap.size) := by show _ ≤ _; have h1 := HSZ.out; have h2 := hG4.size; omega
  clear hC4 hT4 hG4 HKC HKT HBL HSZ
  have HWD : Hid (Calls Tryd.prog 9 #[.pointer (some ⟨b, 0, none⟩), .string (bsO (wordN 3)), .slice (some ⟨W4.heap.size, 0, none⟩) 2 2] (W4.drew.alloc (.cells #[.int .u64 u, .int .u64 id] 33)) fun e w' => e = .returned (.tuple #[]) ∧ BwU w' B b (acc ++ wordN 3 ++ tailW [u, id]) ∧ BwF B b (W4.drew.alloc (.cells #[.int .u64 u, .int .u64 id] 33)) w') := by
    have hw := wordN_len 3
    have hb := (HBW.out.below HB4.out)
    have hlt := hb.lt
    refine bw_word B b W4.heap.size acc (wordN 3) [u, id] 2 2 rfl _ (HE.out.on (HB4.out.trans ((bel_drewZ W4 _).mono HB4.out.size))) hB8 (by have := HB4.out.size; rw [alloc_sizeX]; show B ≤ W4.heap.size + 1; omega) (hb.below (bel_drewZ W4 _)) (row_blk W4.drew [u, id]) (by omega) HUS.out (by omega) (by omega)
  refine wp_region_held_drew (S := fun W => Blk W w.heap.size 38 #[.int .i64 3, .int .u64 id, .slice V vn vc, .int .u64 tg, .int .i64 k, .int .i64 ef, .int .u64 dr]) (by kernel_rfl) HKC4.out (fun hH => ?_)
  refine wpAnyH_take (i := 0) (v := .pointer (some ⟨b, 0, none⟩)) rfl (by kernel_rfl) (by kernel_rfl) (by kernel_rfl) (fun _ _ _ h => h) (.inl ⟨by rfl, fun _ _ => by kernel_rfl⟩) hH ?_
  (try simp only [List.getElem_toArray, List.getElem_cons_zero, Act.put, List.setIfInBounds_toArray, List.set_cons_zero, List.set_cons_succ])
  refine wpAnyH_take (i := 1) (v := .pointer (some ⟨w.heap.size, 0, none⟩)) rfl (by kernel_rfl) (by kernel_rfl) (by kernel_rfl) (fun _ _ _ h => h) (.inl ⟨by rfl, fun _ _ => by kernel_rfl⟩) hH ?_
  (try simp only [List.getElem_toArray, List.getElem_cons_zero, List.getElem_cons_succ, Act.put, List.setIfInBounds_toArray, List.set_cons_zero, List.set_cons_succ])
  refine wpAnyH_take (i := 2) (v := .int .i64 3) rfl (by kernel_rfl) (by kernel_rfl) (by kernel_rfl) (fun _ _ _ h => h) (yieldsIf_loadP (by rfl) _ rfl rfl (fun _ q => loadY_int (q.cell 0))) hH ?_
  (try simp only [List.getElem_toArray, List.getElem_cons_zero, List.getElem_cons_succ, Act.put, List.setIfInBounds_toArray, List.set_cons_zero, List.set_cons_succ])
  refine wpAnyH_take (i := 4) (v := .int .u64 u) rfl (by kernel_rfl) (by kernel_rfl) (by kernel_rfl) (fun _ _ _ h => h) (.inl ⟨by rfl, fun _ _ => by kernel_rfl⟩) hH ?_
  (try simp only [List.getElem_toArray, List.getElem_cons_zero, List.getElem_cons_succ, Act.put, List.setIfInBounds_toArray, List.set_cons_zero, List.set_cons_succ])
  refine wpAnyH_take (i := 5) (v := .pointer (some ⟨w.heap.size, 1, none⟩)) rfl (by kernel_rfl) (by kernel_rfl) (by kernel_rfl) (fun _ _ _ h => h) (.inl ⟨by rfl, fun _ _ => by kernel_rfl⟩) hH ?_
  (try simp only [List.getElem_toArray, List.getElem_cons_zero, List.getElem_cons_succ, Act.put, List.setIfInBounds_toArray, List.set_cons_zero, List.set_cons_succ])
  refine wpAnyH_take (i := 6) (v := .pointer (some ⟨w.heap.size, 1, none⟩)) rfl (by kernel_rfl) (by kernel_rfl) (by kernel_rfl) (fun _ _ _ h => h) (.inl ⟨by rfl, fun _ _ => by kernel_rfl⟩) hH ?_
  (try simp only [List.getElem_toArray, List.getElem_cons_zero, List.getElem_cons_succ, Act.put, List.setIfInBounds_toArray, List.set_cons_zero, List.set_cons_succ])
  refine wpAnyH_take (i := 7) (v := .int .u64 id) rfl (by kernel_rfl) (by kernel_rfl) (by kernel_rfl) (fun _ _ _ h => h) (yieldsIf_loadP (by rfl) _ rfl rfl (fun _ q => loadZ_u64 (q.cell 1))) hH ?_
  (try simp only [List.getElem_toArray, List.getElem_cons_zero, List.getElem_cons_succ, Act.put, List.setIfInBounds_toArray, List.set_cons_zero, List.set_cons_succ])
  refine wpAnyH_all (rs := [3, 8]) (by kernel_rfl) (by simp) (fun i hi => ?_)
  rcases (by simpa using hi : i = 3 ∨ i = 8) with rfl | rfl
  · refine wpOp_call 24 #[.int .i64 3] _ (by rfl) (by kernel_rfl) (by kernel_rfl) (sc_name 3 _) ?_
    rintro e w' ⟨rfl, rfl⟩
    refine ⟨_, rfl, hH, ?_⟩
    (try simp only [List.getElem_toArray, List.getElem_cons_zero, List.getElem_cons_succ, Act.put, List.setIfInBounds_toArray, List.set_cons_zero, List.set_cons_succ])
    refine wpAnyH_all (rs := [8]) (by kernel_rfl) (by simp) (fun i hi => ?_)
    obtain rfl : i = 8 := by simpa using hi
    refine wpOp_build (qs := #[(0, .int .u64 u), (1, .int .u64 id)]) (by rfl) (by kernel_rfl) (by rfl) (by first | kernel_rfl | simp [Act.eval]) (run_us2 _ _ _) ⟨hH.alloc _, ?_⟩
    (try simp only [List.getElem_toArray, List.getElem_cons_zero, List.getElem_cons_succ, Act.put, List.setIfInBounds_toArray, List.set_cons_zero, List.set_cons_succ])
    refine wpAnyH_call 9 9 #[.pointer (some ⟨b, 0, none⟩), .string (bsO (wordN 3)), .slice (some ⟨W4.heap.size, 0, none⟩) 2 2] _ (by kernel_rfl) (by rfl) (by kernel_rfl) (by kernel_rfl) HWD.out ?_
    rintro e W5 ⟨rfl, h5, f5⟩
    refine ⟨_, rfl, f5.blk (hH.alloc _) (by have := HBW.out.lt; omega) (by decide), ?_⟩
    (try simp only [List.getElem_toArray, List.getElem_cons_zero, List.getElem_cons_succ, Act.put, List.setIfInBounds_toArray, List.set_cons_zero, List.set_cons_succ])
    refine wpAnyH_done (by kernel_rfl) ?_ _
    have HB5 : Hid (BwF B b w W5) := (BwF.of HBw0.out (HB4.out.trans ((bel_drewZ W4 _).mono HB4.out.size))).trans f5
    have HC5 : Hid (Blk W5 w.heap.size 38 #[.int .i64 3, .int .u64 id, .slice V vn vc, .int .u64 tg, .int .i64 k, .int .i64 ef, .int .u64 dr]) := f5.blk (HKC4.out.below (bel_drewZ W4 _) HKC4.out.lt) (by have := HBW.out.lt; omega) (by decide)
    have HT5 : Hid (Blk W5 (w.heap.size + 1) 38 #[.int .i64 3, .int .u64 id, .slice none 0 0, .int .u64 0, .int .i64 0, .int .i64 0, .int .u64 0]) := f5.blk (HKT4.out.below (bel_drewZ W4 _) HKT4.out.lt) (by have := HBW.out.lt; omega) (by decide)
    have HVC := Lib.hid (bw_vector B b _ [] none 0 0 W5 (HB5.out.env HE.out hB8) hB8 (Nat.le_trans HBw0.out HB5.out.1.size) h5.s Rd.nil_ (by simp) (by
      have h1 := tailW_len [u, id] HUS.out
      have h2 := wordN_len 3
      rw [List.length_append, List.length_append]
      simp only [List.length_cons, List.length_nil] at h1
      omega) (by omega))
    have v2 : W5.cell? ⟨w.heap.size, 2, none⟩ = some (.slice V vn vc) := HC5.out.cell 2
    clear h5 f5 HWD HKC4 HKT4
    go_wp2_with (go_at_call 10; refine HVC.out.mono ?_)
    rintro e W6 ⟨rfl, h6, f6⟩
    clear v2 HVC
    have hC6 := f6.blk HC5.out (by have := HBW.out.lt; omega) (by decide)
    have hT6 := f6.blk HT5.out (by have := HBW.out.lt; omega) (by decide)
    have HB6 : Hid (BwF B b w W6) := HB5.out.trans f6
    have hr6 : Rd W6 W6.heap.size V vn (vec.map (.int .i32)) := (HR.out.below HB6.out.1).more (Nat.le_trans HBw0.out HB6.out.1.size)
    obtain ⟨bp, hbp⟩ : ∃ q, plainB ⟨u, 3, id, [], 0, 0, 0, 0⟩ ⟨u, 3, id, vec, tg, k, ef, dr⟩ = q := ⟨_, rfl⟩
    have HPL : Hid (Calls Tryd.prog 23 #[.agg #[.int .i64 3, .int .u64 id, .slice none 0 0, .int .u64 0, .int .i64 0, .int .i64 0, .int .u64 0], .agg #[.int .i64 3, .int .u64 id, .slice V vn vc, .int .u64 tg, .int .i64 k, .int .i64 ef, .int .u64 dr]] W6 fun e w' => e = .returned (.bool bp) ∧ Below W6.heap.size W6 w') := by
      rw [← hbp]
      exact sc_plain ⟨u, 3, id, [], 0, 0, 0, 0⟩ ⟨u, 3, id, vec, tg, k, ef, dr⟩ none V 0 0 vn vc W6 Rd.nil_ hr6 (by omega) (by omega)
    have L7 : (Instr.loadAt 38 (.pointer (some ⟨w.heap.size + 1, 0, none⟩))).run Tryd.prog W6 = .ok (.agg #[.int .i64 3, .int .u64 id, .slice none 0 0, .int .u64 0, .int .i64 0, .int .i64 0, .int .u64 0]) W6 := callZ_blk hT6 rfl
    have L5 : (Instr.loadAt 38 (.pointer (some ⟨w.heap.size, 0, none⟩))).run Tryd.prog W6 = .ok (.agg #[.int .i64 3, .int .u64 id, .slice V vn vc, .int .u64 tg, .int .i64 k, .int .i64 ef, .int .u64 dr]) W6 := callZ_blk hC6 rfl
    have HC6 := Lib.hid hC6
    have H6 := Lib.hid h6
    obtain ⟨bk, hbk⟩ : ∃ q, (decide (0 ≤ k) && decide (k ≤ 4096)) = q := ⟨_, rfl⟩
    obtain ⟨be, hbe⟩ : ∃ q, (decide (0 ≤ ef) && decide (ef ≤ 4096)) = q := ⟨_, rfl⟩
    have HWK : Hid (∀ W, Calls Tryd.prog 25 #[.int .i64 k] W fun e w' => e = .returned (.bool bk) ∧ w' = W) := fun W => by rw [← hbk]; exact sc_within k W
    have HWE : Hid (∀ W, Calls Tryd.prog 25 #[.int .i64 ef] W fun e w' => e = .returned (.bool be) ∧ w' = W) := fun W => by rw [← hbe]; exact sc_within ef W
    have HFM : Hid (formB ⟨u, 3, id, vec, tg, k, ef, dr⟩ = (bp && bk && be)) := by
      show _ = _
      rw [← hbp, ← hbk, ← hbe]
      exact form3 u id vec tg k ef dr
    have HTX : Hid ((bp && bk && be) = true → BwU W6 B b (acc ++ lineN (⟨u, 3, id, vec, tg, k, ef, dr⟩, 1) ++ [10])) := fun hq => by
      have := H6.out
      rw [show lineN (⟨u, 3, id, vec, tg, k, ef, dr⟩, 1) = wordN 3 ++ tailW [u, id] from rfl]
      simpa only [List.append_assoc, tailZ, List.nil_append] using this
    clear hT6 hC6 hr6 h6 f6 hbp hbk hbe
    go_wp2_with (first
      | refine wpList_loadE L7 _ rfl rfl rfl ?_
      | refine wpList_loadE L5 _ rfl rfl rfl ?_)
    with_reducible refine HPL.out.mono ?_
    rintro e W7 ⟨rfl, b7⟩
    have c4 : W7.cell? ⟨w.heap.size, 4, none⟩ = some (.int .i64 k) := (b7.cell (p := ⟨w.heap.size, 4, none⟩) HC6.out.lt).trans (HC6.out.cell 4)
    have c5 : W7.cell? ⟨w.heap.size, 5, none⟩ = some (.int .i64 ef) := (b7.cell (p := ⟨w.heap.size, 5, none⟩) HC6.out.lt).trans (HC6.out.cell 5)
    have HB7 : Hid (BwF B b w W7) := HB6.out.trans (BwF.of (Nat.le_trans HBw0.out HB6.out.1.size) b7)
    have HTX7 : Hid ((bp && bk && be) = true → BwU W7 B b (acc ++ lineN (⟨u, 3, id, vec, tg, k, ef, dr⟩, 1) ++ [10])) := fun q => (HTX.out q).below b7
    clear L7 L5 HPL b7 HC6 HTX HB6 HB5 HC5 HT5 H6
    cases bp with
    | false =>
      go_wp2_with fail
      go_ret
      exact ⟨by rw [HFM.out]; rfl, HB7.out, fun q => HTX7.out (by rw [← HFM.out]; exact q)⟩
    | true =>
      cases bk with
      | false =>
        go_wp2_with (go_at_call 25; with_reducible refine (HWK.out _).mono ?_; rintro e w' ⟨rfl, rfl⟩)
        go_ret
        exact ⟨by rw [HFM.out]; rfl, HB7.out, fun q => HTX7.out (by rw [← HFM.out]; exact q)⟩
      | true =>
        go_wp2_with (go_at_call 25; (first | with_reducible refine (HWK.out _).mono ?_ | with_reducible refine (HWE.out _).mono ?_); rintro e w' ⟨rfl, rfl⟩)
        go_ret
        exact ⟨by rw [HFM.out]; rfl, HB7.out, fun q => HTX7.out (by rw [← HFM.out]; exact q)⟩
  · refine wpOp_build (qs := #[(0, .int .u64 u), (1, .int .u64 id)]) (by rfl) (by kernel_rfl) (by rfl) (by first | kernel_rfl | simp [Act.eval]) (run_us2 _ _ _) ⟨hH.alloc _, ?_⟩
    (try simp only [List.getElem_toArray, List.getElem_cons_zero, List.getElem_cons_succ, Act.put, List.setIfInBounds_toArray, List.set_cons_zero, List.set_cons_succ])
    refine wpAnyH_all (rs := [3]) (by kernel_rfl) (by simp) (fun i hi => ?_)
    obtain rfl : i = 3 := by simpa using hi
    refine wpOp_call 24 #[.int .i64 3] _ (by rfl) (by kernel_rfl) (by kernel_rfl) (sc_name 3 _) ?_
    rintro e w' ⟨rfl, rfl⟩
    refine ⟨_, rfl, hH.alloc _, ?_⟩
    (try simp only [List.getElem_toArray, List.getElem_cons_zero, List.getElem_cons_succ, Act.put, List.setIfInBounds_toArray, List.set_cons_zero, List.set_cons_succ])
    refine wpAnyH_call 9 9 #[.pointer (some ⟨b, 0, none⟩), .string (bsO (wordN 3)), .slice (some ⟨W4.heap.size, 0, none⟩) 2 2] _ (by kernel_rfl) (by rfl) (by kernel_rfl) (by kernel_rfl) HWD.out ?_
    rintro e W5 ⟨rfl, h5, f5⟩
    refine ⟨_, rfl, f5.blk (hH.alloc _) (by have := HBW.out.lt; omega) (by decide), ?_⟩
    (try simp only [List.getElem_toArray, List.getElem_cons_zero, List.getElem_cons_succ, Act.put, List.setIfInBounds_toArray, List.set_cons_zero, List.set_cons_succ])
    refine wpAnyH_done (by kernel_rfl) ?_ _
    have HB5 : Hid (BwF B b w W5) := (BwF.of HBw0.out (HB4.out.trans ((bel_drewZ W4 _).mono HB4.out.size))).trans f5
    have HC5 : Hid (Blk W5 w.heap.size 38 #[.int .i64 3, .int .u64 id, .slice V vn vc, .int .u64 tg, .int .i64 k, .int .i64 ef, .int .u64 dr]) := f5.blk (HKC4.out.below (bel_drewZ W4 _) HKC4.out.lt) (by have := HBW.out.lt; omega) (by decide)
    have HT5 : Hid (Blk W5 (w.heap.size + 1) 38 #[.int .i64 3, .int .u64 id, .slice none 0 0, .int .u64 0, .int .i64 0, .int .i64 0, .int .u64 0]) := f5.blk (HKT4.out.below (bel_drewZ W4 _) HKT4.out.lt) (by have := HBW.out.lt; omega) (by decide)
    have HVC := Lib.hid (bw_vector B b _ [] none 0 0 W5 (HB5.out.env HE.out hB8) hB8 (Nat.le_trans HBw0.out HB5.out.1.size) h5.s Rd.nil_ (by simp) (by
      have h1 := tailW_len [u, id] HUS.out
      have h2 := wordN_len 3
      rw [List.length_append, List.length_append]
      simp only [List.length_cons, List.length_nil] at h1
      omega) (by omega))
    have v2 : W5.cell? ⟨w.heap.size, 2, none⟩ = some (.slice V vn vc) := HC5.out.cell 2
    clear h5 f5 HWD HKC4 HKT4
    go_wp2_with (go_at_call 10; refine HVC.out.mono ?_)
    rintro e W6 ⟨rfl, h6, f6⟩
    clear v2 HVC
    have hC6 := f6.blk HC5.out (by have := HBW.out.lt; omega) (by decide)
    have hT6 := f6.blk HT5.out (by have := HBW.out.lt; omega) (by decide)
    have HB6 : Hid (BwF B b w W6) := HB5.out.trans f6
    have hr6 : Rd W6 W6.heap.size V vn (vec.map (.int .i32)) := (HR.out.below HB6.out.1).more (Nat.le_trans HBw0.out HB6.out.1.size)
    obtain ⟨bp, hbp⟩ : ∃ q, plainB ⟨u, 3, id, [], 0, 0, 0, 0⟩ ⟨u, 3, id, vec, tg, k, ef, dr⟩ = q := ⟨_, rfl⟩
    have HPL : Hid (Calls Tryd.prog 23 #[.agg #[.int .i64 3, .int .u64 id, .slice none 0 0, .int .u64 0, .int .i64 0, .int .i64 0, .int .u64 0], .agg #[.int .i64 3, .int .u64 id, .slice V vn vc, .int .u64 tg, .int .i64 k, .int .i64 ef, .int .u64 dr]] W6 fun e w' => e = .returned (.bool bp) ∧ Below W6.heap.size W6 w') := by
      rw [← hbp]
      exact sc_plain ⟨u, 3, id, [], 0, 0, 0, 0⟩ ⟨u, 3, id, vec, tg, k, ef, dr⟩ none V 0 0 vn vc W6 Rd.nil_ hr6 (by omega) (by omega)
    have L7 : (Instr.loadAt 38 (.pointer (some ⟨w.heap.size + 1, 0, none⟩))).run Tryd.prog W6 = .ok (.agg #[.int .i64 3, .int .u64 id, .slice none 0 0, .int .u64 0, .int .i64 0, .int .i64 0, .int .u64 0]) W6 := callZ_blk hT6 rfl
    have L5 : (Instr.loadAt 38 (.pointer (some ⟨w.heap.size, 0, none⟩))).run Tryd.prog W6 = .ok (.agg #[.int .i64 3, .int .u64 id, .slice V vn vc, .int .u64 tg, .int .i64 k, .int .i64 ef, .int .u64 dr]) W6 := callZ_blk hC6 rfl
    have HC6 := Lib.hid hC6
    have H6 := Lib.hid h6
    obtain ⟨bk, hbk⟩ : ∃ q, (decide (0 ≤ k) && decide (k ≤ 4096)) = q := ⟨_, rfl⟩
    obtain ⟨be, hbe⟩ : ∃ q, (decide (0 ≤ ef) && decide (ef ≤ 4096)) = q := ⟨_, rfl⟩
    have HWK : Hid (∀ W, Calls Tryd.prog 25 #[.int .i64 k] W fun e w' => e = .returned (.bool bk) ∧ w' = W) := fun W => by rw [← hbk]; exact sc_within k W
    have HWE : Hid (∀ W, Calls Tryd.prog 25 #[.int .i64 ef] W fun e w' => e = .returned (.bool be) ∧ w' = W) := fun W => by rw [← hbe]; exact sc_within ef W
    have HFM : Hid (formB ⟨u, 3, id, vec, tg, k, ef, dr⟩ = (bp && bk && be)) := by
      show _ = _
      rw [← hbp, ← hbk, ← hbe]
      exact form3 u id vec tg k ef dr
    have HTX : Hid ((bp && bk && be) = true → BwU W6 B b (acc ++ lineN (⟨u, 3, id, vec, tg, k, ef, dr⟩, 1) ++ [10])) := fun hq => by
      have := H6.out
      rw [show lineN (⟨u, 3, id, vec, tg, k, ef, dr⟩, 1) = wordN 3 ++ tailW [u, id] from rfl]
      simpa only [List.append_assoc, tailZ, List.nil_append] using this
    clear hT6 hC6 hr6 h6 f6 hbp hbk hbe
    go_wp2_with (first
      | refine wpList_loadE L7 _ rfl rfl rfl ?_
      | refine wpList_loadE L5 _ rfl rfl rfl ?_)
    with_reducible refine HPL.out.mono ?_
    rintro e W7 ⟨rfl, b7⟩
    have c4 : W7.cell? ⟨w.heap.size, 4, none⟩ = some (.int .i64 k) := (b7.cell (p := ⟨w.heap.size, 4, none⟩) HC6.out.lt).trans (HC6.out.cell 4)
    have c5 : W7.cell? ⟨w.heap.size, 5, none⟩ = some (.int .i64 ef) := (b7.cell (p := ⟨w.heap.size, 5, none⟩) HC6.out.lt).trans (HC6.out.cell 5)
    have HB7 : Hid (BwF B b w W7) := HB6.out.trans (BwF.of (Nat.le_trans HBw0.out HB6.out.1.size) b7)
    have HTX7 : Hid ((bp && bk && be) = true → BwU W7 B b (acc ++ lineN (⟨u, 3, id, vec, tg, k, ef, dr⟩, 1) ++ [10])) := fun q => (HTX.out q).below b7
    clear L7 L5 HPL b7 HC6 HTX HB6 HB5 HC5 HT5 H6
    cases bp with
    | false =>
      go_wp2_with fail
      go_ret
      exact ⟨by rw [HFM.out]; rfl, HB7.out, fun q => HTX7.out (by rw [← HFM.out]; exact q)⟩
    | true =>
      cases bk with
      | false =>
        go_wp2_with (go_at_call 25; with_reducible refine (HWK.out _).mono ?_; rintro e w' ⟨rfl, rfl⟩)
        go_ret
        exact ⟨by rw [HFM.out]; rfl, HB7.out, fun q => HTX7.out (by rw [← HFM.out]; exact q)⟩
      | true =>
        go_wp2_with (go_at_call 25; (first | with_reducible refine (HWK.out _).mono ?_ | with_reducible refine (HWE.out _).mono ?_); rintro e w' ⟨rfl, rfl⟩)
        go_ret
        exact ⟨by rw [HFM.out]; rfl, HB7.out, fun q => HTX7.out (by rw [← HFM.out]; exact q)⟩
set_option maxHeartbeats 16000000 in
set_option maxRecDepth 100000 in
theorem bw_call5 (B b : Nat) (acc : List UInt8) (a : SAct) (hk : a.kd = 5) (V : Option Addr) (vn vc : Nat) (w : World) (he : Env w) (hB8 : 8 ≤ B) (hBw : B ≤ w.heap.size) (h : BwS w B b acc) (hr : Rd w B V vn (a.vec.map (.int .i32))) (hrng : a.Rng) (u : Nat) (hwk : a.wk = u) (hu64 : u ≤ 64) (hvn : vn ≤ 1048576) (hlen : acc.length ≤ 109951162777) :
    Calls Tryd.prog 12 #[.pointer (some ⟨b, 0, none⟩), .int .u64 u, .agg (callC a V vn vc)] w fun e w' => e = .returned (.bool (formB a)) ∧ BwF B b w w' ∧ (formB a = true → BwU w' B b (acc ++ lineN (a, 1) ++ [10])) := by
  obtain ⟨wk, kd, id, vec, tg, k, ef, dr⟩ := a
  simp only at hk hr hwk
  subst hk
  subst hwk
  unfold callC
  simp only
  obtain ⟨r1, r2, r3, r4⟩ := hrng
  simp only at r1 r2 r3 r4
  have HBw0 := Lib.hid hBw
  have HE := Lib.hid he
  have HR := Lib.hid hr
  have HBW := Lib.hid h
  have HR4 := Lib.hid r4
  have HVN := Lib.hid hr.lenI
  have HUS : Hid (∀ x ∈ ([u] : List Nat), x < 18446744073709551616) := by
    show ∀ x ∈ ([u] : List Nat), x < 18446744073709551616
    skip
    skip
    intro x hx
    simp only [List.mem_cons, List.not_mem_nil, or_false] at hx
    subst hx; omega
  obtain ⟨W2, hW2, KC, KT, HB, hsz⟩ := two_boxes w #[.int .i64 5, .int .u64 id, .slice V vn vc, .int .u64 tg, .int .i64 k, .int .i64 ef, .int .u64 dr] #[.int .i64 5, .int .u64 0, .slice none 0 0, .int .u64 0, .int .i64 0, .int .i64 0, .int .u64 0]
  have HKC := Lib.hid KC
  have HKT := Lib.hid KT
  have HBL := Lib.hid HB
  have HSZ := Lib.hid hsz
  have HW2 := Lib.hid hW2
  clear KC KT HB hsz hW2 r1 r2 r3 r4 he hr h
  go_enter Tryd.func12, Tryd.ntmps12
  have hC4 := HKC.out
  have hT4 := HKT.out
  have hG4 := World.grownBy.refl W2 (some (w.heap.size + 1))
  have HKC4 : Hid (Blk W2 w.heap.size 38 #[.int .i64 5, .int .u64 id, .slice V vn vc, .int .u64 tg, .int .i64 k, .int .i64 ef, .int .u64 dr]) := hC4
  have HKT4 : Hid (Blk W2 (w.heap.size + 1) 38 #[.int .i64 5, .int .u64 0, .slice none 0 0, .int .u64 0, .int .i64 0, .int .i64 0, .int .u64 0]) := hT4
  have HB4 : Hid (Below w.heap.size w W2) := (HBL.out.trans (below_of_only hG4 (by have := HSZ.out; omega) (by omega)))
  have HSZ4 : Hid (w.heap.size + 2 ≤ W2.heap.size) := by show _ ≤ _; have h1 := HSZ.out; have h2 := hG4.size; omega
  clear hC4 hT4 hG4 HKC HKT HBL HSZ
  have HWD : Hid (Calls Tryd.prog 9 #[.pointer (some ⟨b, 0, none⟩), .string (bsO (wordN 5)), .slice (some ⟨W2.heap.size, 0, none⟩) 1 1] (W2.alloc (.cells #[.int .u64 u] 33)) fun e w' => e = .returned (.tuple #[]) ∧ BwU w' B b (acc ++ wordN 5 ++ tailW [u]) ∧ BwF B b (W2.alloc (.cells #[.int .u64 u] 33)) w') := by
    have hw := wordN_len 5
    have hb := (HBW.out.below HB4.out)
    have hlt := hb.lt
    refine bw_word B b W2.heap.size acc (wordN 5) [u] 1 1 rfl _ (HE.out.on (HB4.out.trans ((bel_boxX W2 _).mono HB4.out.size))) hB8 (by have := HB4.out.size; rw [alloc_sizeX]; show B ≤ W2.heap.size + 1; omega) (hb.below (bel_boxX W2 _)) (row_blk W2 [u]) (by omega) HUS.out (by omega) (by omega)
  go_upto_region 19 with fail
  rw [HW2.out]
  clear HW2
  have LD : (Instr.loadAt 3 (.pointer (some ⟨w.heap.size, 0, none⟩))).run Tryd.prog W2 = .ok (.int .i64 5) W2 := loadY_int (HKC4.out.cell 0)
  go_wp2_with (first | refine wpList_loadE LD _ rfl rfl rfl ?_ | (go_at_call 24; refine (sc_name 5 _).mono ?_; rintro e w' ⟨rfl, hw'⟩; rw [hw', ← bsO_word]; clear hw') | (go_at_call 9; refine HWD.out.mono ?_))
  rintro e W5 ⟨rfl, h5, f5⟩
  clear LD
  have HB5 : Hid (BwF B b w W5) := (BwF.of HBw0.out (HB4.out.trans ((bel_boxX W2 _).mono HB4.out.size))).trans f5
  have HC5 : Hid (Blk W5 w.heap.size 38 #[.int .i64 5, .int .u64 id, .slice V vn vc, .int .u64 tg, .int .i64 k, .int .i64 ef, .int .u64 dr]) := f5.blk (HKC4.out.below (bel_boxX W2 _) HKC4.out.lt) (by have := HBW.out.lt; omega) (by decide)
  have HT5 : Hid (Blk W5 (w.heap.size + 1) 38 #[.int .i64 5, .int .u64 0, .slice none 0 0, .int .u64 0, .int .i64 0, .int .i64 0, .int .u64 0]) := f5.blk (HKT4.out.below (bel_boxX W2 _) HKT4.out.lt) (by have := HBW.out.lt; omega) (by decide)
  have HVC := Lib.hid (bw_vector B b _ [] none 0 0 W5 (HB5.out.env HE.out hB8) hB8 (Nat.le_trans HBw0.out HB5.out.1.size) h5.s Rd.nil_ (by simp) (by
    have h1 := tailW_len [u] HUS.out
    have h2 := wordN_len 5
    rw [List.length_append, List.length_append]
    simp only [List.length_cons, List.length_nil] at h1
    omega) (by omega))
  have v2 : W5.cell? ⟨w.heap.size, 2, none⟩ = some (.slice V vn vc) := HC5.out.cell 2
  clear h5 f5 HWD HKC4 HKT4
  go_wp2_with (go_at_call 10; refine HVC.out.mono ?_)
  rintro e W6 ⟨rfl, h6, f6⟩
  clear v2 HVC
  have hC6 := f6.blk HC5.out (by have := HBW.out.lt; omega) (by decide)
  have hT6 := f6.blk HT5.out (by have := HBW.out.lt; omega) (by decide)
  have HB6 : Hid (BwF B b w W6) := HB5.out.trans f6
  have hr6 : Rd W6 W6.heap.size V vn (vec.map (.int .i32)) := (HR.out.below HB6.out.1).more (Nat.le_trans HBw0.out HB6.out.1.size)
  obtain ⟨bp, hbp⟩ : ∃ q, plainB ⟨u, 5, 0, [], 0, 0, 0, 0⟩ ⟨u, 5, id, vec, tg, k, ef, dr⟩ = q := ⟨_, rfl⟩
  have HPL : Hid (Calls Tryd.prog 23 #[.agg #[.int .i64 5, .int .u64 0, .slice none 0 0, .int .u64 0, .int .i64 0, .int .i64 0, .int .u64 0], .agg #[.int .i64 5, .int .u64 id, .slice V vn vc, .int .u64 tg, .int .i64 k, .int .i64 ef, .int .u64 dr]] W6 fun e w' => e = .returned (.bool bp) ∧ Below W6.heap.size W6 w') := by
    rw [← hbp]
    exact sc_plain ⟨u, 5, 0, [], 0, 0, 0, 0⟩ ⟨u, 5, id, vec, tg, k, ef, dr⟩ none V 0 0 vn vc W6 Rd.nil_ hr6 (by omega) (by omega)
  have L7 : (Instr.loadAt 38 (.pointer (some ⟨w.heap.size + 1, 0, none⟩))).run Tryd.prog W6 = .ok (.agg #[.int .i64 5, .int .u64 0, .slice none 0 0, .int .u64 0, .int .i64 0, .int .i64 0, .int .u64 0]) W6 := callZ_blk hT6 rfl
  have L5 : (Instr.loadAt 38 (.pointer (some ⟨w.heap.size, 0, none⟩))).run Tryd.prog W6 = .ok (.agg #[.int .i64 5, .int .u64 id, .slice V vn vc, .int .u64 tg, .int .i64 k, .int .i64 ef, .int .u64 dr]) W6 := callZ_blk hC6 rfl
  have HC6 := Lib.hid hC6
  have H6 := Lib.hid h6
  obtain ⟨bk, hbk⟩ : ∃ q, (decide (0 ≤ k) && decide (k ≤ 4096)) = q := ⟨_, rfl⟩
  obtain ⟨be, hbe⟩ : ∃ q, (decide (0 ≤ ef) && decide (ef ≤ 4096)) = q := ⟨_, rfl⟩
  have HWK : Hid (∀ W, Calls Tryd.prog 25 #[.int .i64 k] W fun e w' => e = .returned (.bool bk) ∧ w' = W) := fun W => by rw [← hbk]; exact sc_within k W
  have HWE : Hid (∀ W, Calls Tryd.prog 25 #[.int .i64 ef] W fun e w' => e = .returned (.bool be) ∧ w' = W) := fun W => by rw [← hbe]; exact sc_within ef W
  have HFM : Hid (formB ⟨u, 5, id, vec, tg, k, ef, dr⟩ = (bp && bk && be)) := by
    show _ = _
    rw [← hbp, ← hbk, ← hbe]
    exact form5 u id vec tg k ef dr
  have HTX : Hid ((bp && bk && be) = true → BwU W6 B b (acc ++ lineN (⟨u, 5, id, vec, tg, k, ef, dr⟩, 1) ++ [10])) := fun hq => by
    have := H6.out
    rw [show lineN (⟨u, 5, id, vec, tg, k, ef, dr⟩, 1) = wordN 5 ++ tailW [u] from rfl]
    simpa only [List.append_assoc, tailZ, List.nil_append] using this
  clear hT6 hC6 hr6 h6 f6 hbp hbk hbe
  go_wp2_with (first
    | refine wpList_loadE L7 _ rfl rfl rfl ?_
    | refine wpList_loadE L5 _ rfl rfl rfl ?_)
  with_reducible refine HPL.out.mono ?_
  rintro e W7 ⟨rfl, b7⟩
  have c4 : W7.cell? ⟨w.heap.size, 4, none⟩ = some (.int .i64 k) := (b7.cell (p := ⟨w.heap.size, 4, none⟩) HC6.out.lt).trans (HC6.out.cell 4)
  have c5 : W7.cell? ⟨w.heap.size, 5, none⟩ = some (.int .i64 ef) := (b7.cell (p := ⟨w.heap.size, 5, none⟩) HC6.out.lt).trans (HC6.out.cell 5)
  have HB7 : Hid (BwF B b w W7) := HB6.out.trans (BwF.of (Nat.le_trans HBw0.out HB6.out.1.size) b7)
  have HTX7 : Hid ((bp && bk && be) = true → BwU W7 B b (acc ++ lineN (⟨u, 5, id, vec, tg, k, ef, dr⟩, 1) ++ [10])) := fun q => (HTX.out q).below b7
  clear L7 L5 HPL b7 HC6 HTX HB6 HB5 HC5 HT5 H6
  cases bp with
  | false =>
    go_wp2_with fail
    go_ret
    exact ⟨by rw [HFM.out]; rfl, HB7.out, fun q => HTX7.out (by rw [← HFM.out]; exact q)⟩
  | true =>
    cases bk with
    | false =>
      go_wp2_with (go_at_call 25; with_reducible refine (HWK.out _).mono ?_; rintro e w' ⟨rfl, rfl⟩)
      go_ret
      exact ⟨by rw [HFM.out]; rfl, HB7.out, fun q => HTX7.out (by rw [← HFM.out]; exact q)⟩
    | true =>
      go_wp2_with (go_at_call 25; (first | with_reducible refine (HWK.out _).mono ?_ | with_reducible refine (HWE.out _).mono ?_); rintro e w' ⟨rfl, rfl⟩)
      go_ret
      exact ⟨by rw [HFM.out]; rfl, HB7.out, fun q => HTX7.out (by rw [← HFM.out]; exact q)⟩
set_option maxHeartbeats 16000000 in
set_option maxRecDepth 100000 in
theorem bw_call6 (B b : Nat) (acc : List UInt8) (a : SAct) (hk : a.kd = 6) (V : Option Addr) (vn vc : Nat) (w : World) (he : Env w) (hB8 : 8 ≤ B) (hBw : B ≤ w.heap.size) (h : BwS w B b acc) (hr : Rd w B V vn (a.vec.map (.int .i32))) (hrng : a.Rng) (u : Nat) (hwk : a.wk = u) (hu64 : u ≤ 64) (hvn : vn ≤ 1048576) (hlen : acc.length ≤ 109951162777) :
    Calls Tryd.prog 12 #[.pointer (some ⟨b, 0, none⟩), .int .u64 u, .agg (callC a V vn vc)] w fun e w' => e = .returned (.bool (formB a)) ∧ BwF B b w w' ∧ (formB a = true → BwU w' B b (acc ++ lineN (a, 1) ++ [10])) := by
  obtain ⟨wk, kd, id, vec, tg, k, ef, dr⟩ := a
  simp only at hk hr hwk
  subst hk
  subst hwk
  unfold callC
  simp only
  obtain ⟨r1, r2, r3, r4⟩ := hrng
  simp only at r1 r2 r3 r4
  have HBw0 := Lib.hid hBw
  have HE := Lib.hid he
  have HR := Lib.hid hr
  have HBW := Lib.hid h
  have HR4 := Lib.hid r4
  have HVN := Lib.hid hr.lenI
  have HUS : Hid (∀ x ∈ ([u] : List Nat), x < 18446744073709551616) := by
    show ∀ x ∈ ([u] : List Nat), x < 18446744073709551616
    skip
    skip
    intro x hx
    simp only [List.mem_cons, List.not_mem_nil, or_false] at hx
    subst hx; omega
  obtain ⟨W2, hW2, KC, KT, HB, hsz⟩ := two_boxes w #[.int .i64 6, .int .u64 id, .slice V vn vc, .int .u64 tg, .int .i64 k, .int .i64 ef, .int .u64 dr] #[.int .i64 6, .int .u64 0, .slice none 0 0, .int .u64 0, .int .i64 0, .int .i64 0, .int .u64 0]
  have HKC := Lib.hid KC
  have HKT := Lib.hid KT
  have HBL := Lib.hid HB
  have HSZ := Lib.hid hsz
  have HW2 := Lib.hid hW2
  clear KC KT HB hsz hW2 r1 r2 r3 r4 he hr h
  go_enter Tryd.func12, Tryd.ntmps12
  have hC4 := HKC.out
  have hT4 := HKT.out
  have hG4 := World.grownBy.refl W2 (some (w.heap.size + 1))
  have HKC4 : Hid (Blk W2 w.heap.size 38 #[.int .i64 6, .int .u64 id, .slice V vn vc, .int .u64 tg, .int .i64 k, .int .i64 ef, .int .u64 dr]) := hC4
  have HKT4 : Hid (Blk W2 (w.heap.size + 1) 38 #[.int .i64 6, .int .u64 0, .slice none 0 0, .int .u64 0, .int .i64 0, .int .i64 0, .int .u64 0]) := hT4
  have HB4 : Hid (Below w.heap.size w W2) := (HBL.out.trans (below_of_only hG4 (by have := HSZ.out; omega) (by omega)))
  have HSZ4 : Hid (w.heap.size + 2 ≤ W2.heap.size) := by show _ ≤ _; have h1 := HSZ.out; have h2 := hG4.size; omega
  clear hC4 hT4 hG4 HKC HKT HBL HSZ
  have HWD : Hid (Calls Tryd.prog 9 #[.pointer (some ⟨b, 0, none⟩), .string (bsO (wordN 6)), .slice (some ⟨W2.heap.size, 0, none⟩) 1 1] (W2.alloc (.cells #[.int .u64 u] 33)) fun e w' => e = .returned (.tuple #[]) ∧ BwU w' B b (acc ++ wordN 6 ++ tailW [u]) ∧ BwF B b (W2.alloc (.cells #[.int .u64 u] 33)) w') := by
    have hw := wordN_len 6
    have hb := (HBW.out.below HB4.out)
    have hlt := hb.lt
    refine bw_word B b W2.heap.size acc (wordN 6) [u] 1 1 rfl _ (HE.out.on (HB4.out.trans ((bel_boxX W2 _).mono HB4.out.size))) hB8 (by have := HB4.out.size; rw [alloc_sizeX]; show B ≤ W2.heap.size + 1; omega) (hb.below (bel_boxX W2 _)) (row_blk W2 [u]) (by omega) HUS.out (by omega) (by omega)
  go_upto_region 19 with fail
  rw [HW2.out]
  clear HW2
  have LD : (Instr.loadAt 3 (.pointer (some ⟨w.heap.size, 0, none⟩))).run Tryd.prog W2 = .ok (.int .i64 6) W2 := loadY_int (HKC4.out.cell 0)
  go_wp2_with (first | refine wpList_loadE LD _ rfl rfl rfl ?_ | (go_at_call 24; refine (sc_name 6 _).mono ?_; rintro e w' ⟨rfl, hw'⟩; rw [hw', ← bsO_word]; clear hw') | (go_at_call 9; refine HWD.out.mono ?_))
  rintro e W5 ⟨rfl, h5, f5⟩
  clear LD
  have HB5 : Hid (BwF B b w W5) := (BwF.of HBw0.out (HB4.out.trans ((bel_boxX W2 _).mono HB4.out.size))).trans f5
  have HC5 : Hid (Blk W5 w.heap.size 38 #[.int .i64 6, .int .u64 id, .slice V vn vc, .int .u64 tg, .int .i64 k, .int .i64 ef, .int .u64 dr]) := f5.blk (HKC4.out.below (bel_boxX W2 _) HKC4.out.lt) (by have := HBW.out.lt; omega) (by decide)
  have HT5 : Hid (Blk W5 (w.heap.size + 1) 38 #[.int .i64 6, .int .u64 0, .slice none 0 0, .int .u64 0, .int .i64 0, .int .i64 0, .int .u64 0]) := f5.blk (HKT4.out.below (bel_boxX W2 _) HKT4.out.lt) (by have := HBW.out.lt; omega) (by decide)
  have HVC := Lib.hid (bw_vector B b _ [] none 0 0 W5 (HB5.out.env HE.out hB8) hB8 (Nat.le_trans HBw0.out HB5.out.1.size) h5.s Rd.nil_ (by simp) (by
    have h1 := tailW_len [u] HUS.out
    have h2 := wordN_len 6
    rw [List.length_append, List.length_append]
    simp only [List.length_cons, List.length_nil] at h1
    omega) (by omega))
  have v2 : W5.cell? ⟨w.heap.size, 2, none⟩ = some (.slice V vn vc) := HC5.out.cell 2
  clear h5 f5 HWD HKC4 HKT4
  go_wp2_with (go_at_call 10; refine HVC.out.mono ?_)
  rintro e W6 ⟨rfl, h6, f6⟩
  clear v2 HVC
  have hC6 := f6.blk HC5.out (by have := HBW.out.lt; omega) (by decide)
  have hT6 := f6.blk HT5.out (by have := HBW.out.lt; omega) (by decide)
  have HB6 : Hid (BwF B b w W6) := HB5.out.trans f6
  have hr6 : Rd W6 W6.heap.size V vn (vec.map (.int .i32)) := (HR.out.below HB6.out.1).more (Nat.le_trans HBw0.out HB6.out.1.size)
  obtain ⟨bp, hbp⟩ : ∃ q, plainB ⟨u, 6, 0, [], 0, 0, 0, 0⟩ ⟨u, 6, id, vec, tg, k, ef, dr⟩ = q := ⟨_, rfl⟩
  have HPL : Hid (Calls Tryd.prog 23 #[.agg #[.int .i64 6, .int .u64 0, .slice none 0 0, .int .u64 0, .int .i64 0, .int .i64 0, .int .u64 0], .agg #[.int .i64 6, .int .u64 id, .slice V vn vc, .int .u64 tg, .int .i64 k, .int .i64 ef, .int .u64 dr]] W6 fun e w' => e = .returned (.bool bp) ∧ Below W6.heap.size W6 w') := by
    rw [← hbp]
    exact sc_plain ⟨u, 6, 0, [], 0, 0, 0, 0⟩ ⟨u, 6, id, vec, tg, k, ef, dr⟩ none V 0 0 vn vc W6 Rd.nil_ hr6 (by omega) (by omega)
  have L7 : (Instr.loadAt 38 (.pointer (some ⟨w.heap.size + 1, 0, none⟩))).run Tryd.prog W6 = .ok (.agg #[.int .i64 6, .int .u64 0, .slice none 0 0, .int .u64 0, .int .i64 0, .int .i64 0, .int .u64 0]) W6 := callZ_blk hT6 rfl
  have L5 : (Instr.loadAt 38 (.pointer (some ⟨w.heap.size, 0, none⟩))).run Tryd.prog W6 = .ok (.agg #[.int .i64 6, .int .u64 id, .slice V vn vc, .int .u64 tg, .int .i64 k, .int .i64 ef, .int .u64 dr]) W6 := callZ_blk hC6 rfl
  have HC6 := Lib.hid hC6
  have H6 := Lib.hid h6
  obtain ⟨bk, hbk⟩ : ∃ q, (decide (0 ≤ k) && decide (k ≤ 4096)) = q := ⟨_, rfl⟩
  obtain ⟨be, hbe⟩ : ∃ q, (decide (0 ≤ ef) && decide (ef ≤ 4096)) = q := ⟨_, rfl⟩
  have HWK : Hid (∀ W, Calls Tryd.prog 25 #[.int .i64 k] W fun e w' => e = .returned (.bool bk) ∧ w' = W) := fun W => by rw [← hbk]; exact sc_within k W
  have HWE : Hid (∀ W, Calls Tryd.prog 25 #[.int .i64 ef] W fun e w' => e = .returned (.bool be) ∧ w' = W) := fun W => by rw [← hbe]; exact sc_within ef W
  have HFM : Hid (formB ⟨u, 6, id, vec, tg, k, ef, dr⟩ = (bp && bk && be)) := by
    show _ = _
    rw [← hbp, ← hbk, ← hbe]
    exact form6 u id vec tg k ef dr
  have HTX : Hid ((bp && bk && be) = true → BwU W6 B b (acc ++ lineN (⟨u, 6, id, vec, tg, k, ef, dr⟩, 1) ++ [10])) := fun hq => by
    have := H6.out
    rw [show lineN (⟨u, 6, id, vec, tg, k, ef, dr⟩, 1) = wordN 6 ++ tailW [u] from rfl]
    simpa only [List.append_assoc, tailZ, List.nil_append] using this
  clear hT6 hC6 hr6 h6 f6 hbp hbk hbe
  go_wp2_with (first
    | refine wpList_loadE L7 _ rfl rfl rfl ?_
    | refine wpList_loadE L5 _ rfl rfl rfl ?_)
  with_reducible refine HPL.out.mono ?_
  rintro e W7 ⟨rfl, b7⟩
  have c4 : W7.cell? ⟨w.heap.size, 4, none⟩ = some (.int .i64 k) := (b7.cell (p := ⟨w.heap.size, 4, none⟩) HC6.out.lt).trans (HC6.out.cell 4)
  have c5 : W7.cell? ⟨w.heap.size, 5, none⟩ = some (.int .i64 ef) := (b7.cell (p := ⟨w.heap.size, 5, none⟩) HC6.out.lt).trans (HC6.out.cell 5)
  have HB7 : Hid (BwF B b w W7) := HB6.out.trans (BwF.of (Nat.le_trans HBw0.out HB6.out.1.size) b7)
  have HTX7 : Hid ((bp && bk && be) = true → BwU W7 B b (acc ++ lineN (⟨u, 6, id, vec, tg, k, ef, dr⟩, 1) ++ [10])) := fun q => (HTX.out q).below b7
  clear L7 L5 HPL b7 HC6 HTX HB6 HB5 HC5 HT5 H6
  cases bp with
  | false =>
    go_wp2_with fail
    go_ret
    exact ⟨by rw [HFM.out]; rfl, HB7.out, fun q => HTX7.out (by rw [← HFM.out]; exact q)⟩
  | true =>
    cases bk with
    | false =>
      go_wp2_with (go_at_call 25; with_reducible refine (HWK.out _).mono ?_; rintro e w' ⟨rfl, rfl⟩)
      go_ret
      exact ⟨by rw [HFM.out]; rfl, HB7.out, fun q => HTX7.out (by rw [← HFM.out]; exact q)⟩
    | true =>
      go_wp2_with (go_at_call 25; (first | with_reducible refine (HWK.out _).mono ?_ | with_reducible refine (HWE.out _).mono ?_); rintro e w' ⟨rfl, rfl⟩)
      go_ret
      exact ⟨by rw [HFM.out]; rfl, HB7.out, fun q => HTX7.out (by rw [← HFM.out]; exact q)⟩
set_option maxHeartbeats 4000000 in
set_option maxRecDepth 100000 in
theorem bw_call0 (B b : Nat) (acc : List UInt8) (a : SAct) (h1 : a.kd ≠ 1) (h2 : a.kd ≠ 2) (h3 : a.kd ≠ 3) (h4 : a.kd ≠ 4) (h5 : a.kd ≠ 5) (h6 : a.kd ≠ 6) (V : Option Addr) (vn vc : Nat) (w : World) (hBw : B ≤ w.heap.size) (u : Nat) :
    Calls Tryd.prog 12 #[.pointer (some ⟨b, 0, none⟩), .int .u64 u, .agg (callC a V vn vc)] w fun e w' => e = .returned (.bool (formB a)) ∧ BwF B b w w' ∧ (formB a = true → BwU w' B b (acc ++ lineN (a, 1) ++ [10])) := by
  have hf : formB a = false := by simp [formB, h1, h2, h3, h4, h5, h6]
  obtain ⟨wk, kd, id, vec, tg, k, ef, dr⟩ := a
  rw [hf]
  unfold callC
  simp only at h1 h2 h3 h4 h5 h6 ⊢
  obtain ⟨W2, hW2, KC, KT, HB, hsz⟩ := two_boxes w #[.int .i64 kd, .int .u64 id, .slice V vn vc, .int .u64 tg, .int .i64 k, .int .i64 ef, .int .u64 dr] #[.int .i64 kd, .int .u64 0, .slice none 0 0, .int .u64 0, .int .i64 0, .int .i64 0, .int .u64 0]
  have HBF : Hid (BwF B b w ((w.alloc (.cells #[.int .i64 kd, .int .u64 id, .slice V vn vc, .int .u64 tg, .int .i64 k, .int .i64 ef, .int .u64 dr] 38)).alloc (.cells #[.int .i64 kd, .int .u64 0, .slice none 0 0, .int .u64 0, .int .i64 0, .int .i64 0, .int .u64 0] 38))) := by rw [hW2]; exact BwF.of hBw HB
  clear hW2 KC KT HB hsz hf hBw
  have HQ : ∀ Q : Ending → World → Prop, Hid (Q = fun e w' => e = .returned (.bool false) ∧ BwF B b w w' ∧ (false = true → BwU w' B b (acc ++ lineN (⟨wk, kd, id, vec, tg, k, ef, dr⟩, 1) ++ [10]))) → Calls Tryd.prog 12 #[.pointer (some ⟨b, 0, none⟩), .int .u64 u, .agg #[.int .i64 kd, .int .u64 id, .slice V vn vc, .int .u64 tg, .int .i64 k, .int .i64 ef, .int .u64 dr]] w Q := by
    intro Q hQ
    go_enter Tryd.func12, Tryd.ntmps12
    go_wp2
    rw [hQ.out]
    exact ⟨rfl, HBF.out, fun q => by cases q⟩
  exact HQ _ rfl
/-- A call's line, written. -/
theorem bw_call (B b : Nat) (acc : List UInt8) (a : SAct) (V : Option Addr) (vn vc : Nat) (w : World) (he : Env w) (hB8 : 8 ≤ B) (hBw : B ≤ w.heap.size) (h : BwS w B b acc) (hr : Rd w B V vn (a.vec.map (.int .i32))) (hrng : a.Rng) (u : Nat) (hwk : a.wk = u) (hu64 : u ≤ 64) (hvn : vn ≤ 1048576) (hlen : acc.length ≤ 109951162777) :
    Calls Tryd.prog 12 #[.pointer (some ⟨b, 0, none⟩), .int .u64 u, .agg (callC a V vn vc)] w fun e w' => e = .returned (.bool (formB a)) ∧ BwF B b w w' ∧ (formB a = true → BwU w' B b (acc ++ lineN (a, 1) ++ [10])) := by
  by_cases h1 : a.kd = 1
  · exact bw_call1 B b acc a h1 V vn vc w he hB8 hBw h hr hrng u hwk hu64 hvn hlen
  by_cases h2 : a.kd = 2
  · exact bw_call2 B b acc a h2 V vn vc w he hB8 hBw h hr hrng u hwk hu64 hvn hlen
  by_cases h3 : a.kd = 3
  · exact bw_call3 B b acc a h3 V vn vc w he hB8 hBw h hr hrng u hwk hu64 hvn hlen
  by_cases h4 : a.kd = 4
  · exact bw_call4 B b acc a h4 V vn vc w he hB8 hBw h hr hrng u hwk hu64 hvn hlen
  by_cases h5 : a.kd = 5
  · exact bw_call5 B b acc a h5 V vn vc w he hB8 hBw h hr hrng u hwk hu64 hvn hlen
  by_cases h6 : a.kd = 6
  · exact bw_call6 B b acc a h6 V vn vc w he hB8 hBw h hr hrng u hwk hu64 hvn hlen
  exact bw_call0 B b acc a h1 h2 h3 h4 h5 h6 V vn vc w hBw u
end Go.Proofs.YtillmlaoppibfaaDoor
