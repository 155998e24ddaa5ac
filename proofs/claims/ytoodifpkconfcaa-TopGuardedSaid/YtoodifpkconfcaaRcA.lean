/- Clocks of workers: Step, With, List, Of, Compare, At. -/
import Derived.Test.YtoodifpkconfcaaBase
import Derived.Test.YtoodifpkconfcaaRow
import Derived.Test.YtoodifpkconfcaaTch
import Derived.Laws.Rows
import Derived.Lib.Hide
import Derived.Lib.MinMax
import Derived.Deep.Cut
import Derived.Deep.CutRange
import Derived.Deep.Draws
import Derived.ChangeKeysEq
import Derived.Laws.CopyOwn
namespace Go.Proofs.Ytoodifpkconfcaa
open Go.RowKit
def clC (c : List Int) : Array Value := (c.map (Value.int .i64)).toArray
def clV (c : List Int) : Value := .agg (clC c)
def cl0 : List Int := List.replicate 65 0
theorem clC_size (c : List Int) : (clC c).size = c.length := by simp [clC]
theorem clC_get {c : List Int} {i : Nat} (h : i < c.length) : (clC c)[i]? = some (.int .i64 (ig c i)) := by
  simp [clC, ig, List.getD_eq_getElem?_getD, h]
theorem clC_set (c : List Int) (k : Nat) (v : Int) : (clC c).setIfInBounds k (.int .i64 v) = clC (c.set k v) := by
  unfold clC
  rw [List.map_set]
  simp
theorem info_clock : (Try.prog.info? 45).map (fun i => (i.zero, i.size, i.bytes)) = some (some (.agg (clC cl0)), 65, 520) := by kernel_rfl
theorem clTN : (Try.prog.info? 45).map (·.size) = some 65 := by kernel_rfl
theorem bel_boxC (w : World) (o : Obj) : Below w.heap.size w (w.alloc o) := (Below.refl _ w).alloc (Nat.le_refl _) _
theorem cl_load {w : World} {b : Nat} {c : List Int} (hc : c.length = 65) (h : Blk w b 45 (clC c)) : (Instr.loadAt 45 (.pointer (some ⟨b, 0, none⟩))).run Try.prog w = .ok (.agg (clC c)) w :=
  row_load h Try.underlying45 rfl (by rw [clC_size, hc]; exact clTN)
theorem clC_one (c : List Int) : (clC c).all (·.oneCell') = true := by
  rw [Array.all_eq_true]
  intro i hi
  simp [clC, Value.oneCell']
theorem cl_store {w : World} {b : Nat} {c d : List Int} (hc : c.length = 65) (hd : d.length = 65) (h : Blk w b 45 (clC c)) : (Instr.storeAt 45 (.pointer (some ⟨b, 0, none⟩)) (.agg (clC d))).run Try.prog w = .ok () (w.setCells b 0 (clC d).toList) :=
  row_store h (clC d) (by rw [clC_size, clC_size, hc, hd]) (by rw [clC_size, hd]; exact clTN) (clC_one d)
theorem cl_stored {w : World} {b : Nat} {c d : List Int} (hc : c.length = 65) (hd : d.length = 65) (h : Blk w b 45 (clC c)) : Blk (w.setCells b 0 (clC d).toList) b 45 (clC d) := by
  have := h.put (clC d).toList (by rw [Array.length_toList, clC_size, clC_size, hc, hd])
  simpa using this
/-- An operation that yields, by its run. -/
theorem wpList_valE {P : Program} {ops : Array Oper} {rest : List Oper} {op : Oper} {a : Act} {w w' : World} {Q : Exit → Act → World → Prop} {v : Value} (hg : op.guard = none) (hr : (execOp a.eval op).run P w = .ok (.value v) w') (h : wpList P ops Q rest (a.put op.dst v) w') : wpList P ops Q (op :: rest) a w := by
  refine wpList_step fun K hK => ?_
  rw [if_pos (by unfold Region.wanted; rw [hg])]
  unfold Oper.wp
  rw [hr]
  exact hK _ _ h
theorem exec_allocC {o : Oper} {ρ : Operand → Value} {w w' : World} (ho : o.op = .alloc 45) (h : w.alloc (.cells (clC cl0) 45) = w') : (execOp ρ o).run Try.prog w = .ok (.value (.pointer (some ⟨w.heap.size, 0, none⟩))) w' := by
  unfold execOp
  simp only [ho]
  subst h
  kernel_rfl
theorem exec_boxC {o : Oper} {ρ : Operand → Value} {x : Operand} {c : List Int} {w w' : World} (ho : o.op = .box 45 x) (hx : ρ x = .agg (clC c)) (h : w.alloc (.cells (clC c) 45) = w') : (execOp ρ o).run Try.prog w = .ok (.value (.pointer (some ⟨w.heap.size, 0, none⟩))) w' := by
  unfold execOp
  simp only [ho, hx]
  subst h
  kernel_rfl
theorem cl0_len : cl0.length = 65 := List.length_replicate ..
set_option maxRecDepth 100000 in
set_option maxHeartbeats 2000000 in
theorem cl_step (c : List Int) (hc : c.length = 65) (u : Nat) (hu : u < 65) (hb : 0 ≤ ig c u ∧ ig c u ≤ 1048576) (w : World) :
    Calls Try.prog 21 #[.agg (clC c), .int .i64 ((u : Nat) : Int)] w (fun e w' => e = .returned (.agg (clC (c.set u (ig c u + 1)))) ∧ Below w.heap.size w w') := by
  obtain ⟨w1, hw1⟩ : ∃ x, w.alloc (.cells (clC c) 45) = x := ⟨_, rfl⟩
  obtain ⟨w2, hw2⟩ : ∃ x, w1.alloc (.cells (clC cl0) 45) = x := ⟨_, rfl⟩
  have b1 : Below w.heap.size w w1 := by rw [← hw1]; exact bel_boxC _ _
  have b2 : Below w1.heap.size w1 w2 := by rw [← hw2]; exact bel_boxC _ _
  have e1 : w1.heap.size = w.heap.size + 1 := by rw [← hw1]; simp only [World.alloc, Array.size_push]
  have k1 : Blk w1 w.heap.size 45 (clC c) := by rw [← hw1]; exact Blk.new _ _ _
  have k2 : Blk w2 w1.heap.size 45 (clC cl0) := by rw [← hw2]; exact Blk.new _ _ _
  have k1 := k1.below b2 k1.lt
  obtain ⟨v, hv⟩ : ∃ v, ig c u = v := ⟨_, rfl⟩
  have cu : w2.cell? ⟨w.heap.size, u, none⟩ = some (.int .i64 v) := by rw [← hv]; exact (k1.cell u).trans (clC_get (by omega))
  have fu : w2.frozen? ⟨w.heap.size, u, none⟩ = false := k1.frozen u
  rw [hv] at hb ⊢
  obtain ⟨w3, hw3⟩ : ∃ x, w2.setCell ⟨w.heap.size, u, none⟩ (.int .i64 (v + 1)) = x := ⟨_, rfl⟩
  have k3 : Blk w3 w.heap.size 45 (clC (c.set u (v + 1))) := by rw [← hw3, ← clC_set]; exact k1.set_ u _
  have k4 : Blk w3 w1.heap.size 45 (clC cl0) := by rw [← hw3]; exact k2.far (by simp; omega) _
  have hl : (c.set u (v + 1)).length = 65 := by rw [List.length_set, hc]
  have LD := cl_load hl k3
  have ST := cl_store (d := c.set u (v + 1)) cl0_len hl k4
  have k5 := cl_stored (d := c.set u (v + 1)) cl0_len hl k4
  obtain ⟨w4, hw4⟩ : ∃ x, w3.setCells w1.heap.size 0 (clC (c.set u (v + 1))).toList = x := ⟨_, rfl⟩
  rw [hw4] at ST k5
  have hB : Below w.heap.size w w4 := by
    have t1 : Tch (fun k => k = w.heap.size) w2 w3 := by rw [← hw3]; exact Tch.setCell (S := fun k => k = w.heap.size) (Tch.refl _ w2) rfl _ _
    have t2 : Tch (fun k => k = w1.heap.size) w3 w4 := by rw [← hw4]; exact Tch.setCells (S := fun k => k = w1.heap.size) rfl _ _ w3 (Tch.refl _ w3)
    have h12 := b1.trans (b2.mono b1.size)
    have h13 := h12.trans (t1.below h12.size (fun k hk => Nat.le_of_eq hk.symm))
    exact h13.trans (t2.below h13.size (fun k hk => by subst hk; exact b1.size))
  have HB := Lib.hid hB
  have HK := Lib.hid k5
  have HC := Lib.hid hc
  obtain ⟨d, hd⟩ : ∃ d, c.set u (v + 1) = d := ⟨_, rfl⟩
  rw [hd] at LD ST HK ⊢
  have w64 : wrap64 (v + 1) = v + 1 := by unfold wrap64; omega
  have u1 : (0 : Int) ≤ (u : Int) := by omega
  have u2 : (u : Int) < 65 := by omega
  have u3 : v < 4611686018427387904 := by omega
  have X1 := Lib.hid hw1
  have X2 := Lib.hid hw2
  have HHL : Hid (d.length = 65) := by show _ = _; rw [← hd]; exact hl
  clear b1 b2 e1 k1 k2 k3 k4 k5 hB hl hv hd hw1 hw2 hw4 hc
  go_enter Try.func21, Try.ntmps21
  go_upto_region 1 with (first
    | refine wpList_valE rfl (exec_boxC rfl rfl X1.out) ?_
    | refine wpList_valE rfl (exec_allocC rfl X2.out) ?_)
  go_upto_region 3 with fail
  (try rw [hw3])
  clear hw3 cu fu
  go_wp2_with (first
    | refine wpList_loadE LD _ rfl rfl rfl ?_
    | refine wpList_storeE ST _ _ rfl rfl rfl rfl ?_)
  refine bodyPost_ret (v := .agg (clC d)) ?_ rfl ⟨rfl, HB.out⟩
  exact results_cell_row Try.results21 _ _ _ _ _ _ _ rfl HK.out Try.underlying45 rfl (by rw [clC_size, HHL.out]; exact clTN)
def mxC (c d : List Int) : List Int := List.zipWith max c d
theorem mxC_len {c d : List Int} (hc : c.length = 65) (hd : d.length = 65) : (mxC c d).length = 65 := by simp [mxC, hc, hd]
theorem mxC_ig {c d : List Int} (hc : c.length = 65) (hd : d.length = 65) {i : Nat} (hi : i < 65) : ig (mxC c d) i = max (ig c i) (ig d i) := by
  simp [mxC, ig, List.getD_eq_getElem?_getD, hc, hd, hi]
theorem exec_indexC {o : Oper} {ρ : Operand → Value} {x y : Operand} {c : List Int} {k : Nat} {w : World} (ho : o.op = .index 45 x y) (hx : ρ x = .agg (clC c)) (hy : ρ y = .int .i64 (k : Int)) (hk : k < 65) (hc : c.length = 65) : (execOp ρ o).run Try.prog w = .ok (.value (.int .i64 (ig c k))) w := by
  have hg : (clC c)[k]? = some (.int .i64 (ig c k)) := clC_get (by omega)
  have h5 : 0 ≤ (k : Int) ∧ (k : Int) < ((65 : Nat) : Int) := by omega
  have e1 : (Instr.index 45 (.agg (clC c)) (.int .i64 (k : Int))).run Try.prog w = .ok (.int .i64 (ig c k)) w := by
    simp [Instr.index, run_underlying Try.underlying45, asIntOf, h5, go_sem, hk, hg]
  unfold execOp
  simp only [ho, hx, hy, Sem.run_bind, e1, Result.andThen_ok]
  rfl
/-- A join, half done. -/
structure WiS (w w' : World) (b rb : Nat) (c d : List Int) (j : Nat) (cs : List Int) : Prop where
  k : Blk w' b 45 (clC cs)
  r : Blk w' rb 45 (clC cl0)
  l : cs.length = 65
  v : ∀ i, i < 65 → ig cs i = if i < j then max (ig c i) (ig d i) else ig c i
  ne : b ≠ rb
  lo : w.heap.size ≤ b ∧ w.heap.size ≤ rb
  h : Below w.heap.size w w'
theorem WiS.step {w w' : World} {b rb : Nat} {c d : List Int} {j : Nat} {cs : List Int} (S : WiS w w' b rb c d j cs) (hj : j < 65) : WiS w (w'.setCell ⟨b, j, none⟩ (.int .i64 (max (ig c j) (ig d j)))) b rb c d (j + 1) (cs.set j (max (ig c j) (ig d j))) := by
  refine ⟨by rw [← clC_set]; exact S.k.set_ j _, S.r.far (fun q => S.ne (Eq.symm q)) _, by rw [List.length_set]; exact S.l, fun i hi => ?_, S.ne, S.lo, S.h.trans ((Tch.setCell (S := fun k => k = b) (Tch.refl _ w') rfl _ _).below S.h.size (fun k hk => by subst hk; exact S.lo.1))⟩
  rw [ig_set (by rw [S.l]; exact hj)]
  by_cases e : j = i
  · subst e
    rw [if_pos rfl, if_pos (by omega)]
  · rw [if_neg e, S.v i hi]
    by_cases h : i < j
    · rw [if_pos h, if_pos (by omega)]
    · rw [if_neg h, if_neg (by omega)]
theorem WiS.done {w w' : World} {b rb : Nat} {c d : List Int} {cs : List Int} (S : WiS w w' b rb c d 65 cs) (hc : c.length = 65) (hd : d.length = 65) : cs = mxC c d :=
  ext_getD (by rw [S.l, mxC_len hc hd]) fun k hk => by
    have hk : k < 65 := by rw [← S.l]; exact hk
    rw [S.v k hk, if_pos hk, mxC_ig hc hd hk]
set_option maxRecDepth 100000 in
set_option maxHeartbeats 2000000 in
theorem cl_with (c d : List Int) (hc : c.length = 65) (hd : d.length = 65) (w : World) :
    Calls Try.prog 24 #[.agg (clC c), .agg (clC d)] w (fun e w' => e = .returned (.agg (clC (mxC c d))) ∧ Below w.heap.size w w') := by
  obtain ⟨w1, hw1⟩ : ∃ x, w.alloc (.cells (clC c) 45) = x := ⟨_, rfl⟩
  obtain ⟨w2, hw2⟩ : ∃ x, w1.alloc (.cells (clC d) 45) = x := ⟨_, rfl⟩
  obtain ⟨w3, hw3⟩ : ∃ x, w2.alloc (.cells (clC cl0) 45) = x := ⟨_, rfl⟩
  have b1 : Below w.heap.size w w1 := by rw [← hw1]; exact bel_boxC _ _
  have b2 : Below w1.heap.size w1 w2 := by rw [← hw2]; exact bel_boxC _ _
  have b3 : Below w2.heap.size w2 w3 := by rw [← hw3]; exact bel_boxC _ _
  have e1 : w1.heap.size = w.heap.size + 1 := by rw [← hw1]; simp only [World.alloc, Array.size_push]
  have e2 : w2.heap.size = w1.heap.size + 1 := by rw [← hw2]; simp only [World.alloc, Array.size_push]
  have k1 : Blk w1 w.heap.size 45 (clC c) := by rw [← hw1]; exact Blk.new _ _ _
  have k2 : Blk w2 w1.heap.size 45 (clC d) := by rw [← hw2]; exact Blk.new _ _ _
  have k3 : Blk w3 w2.heap.size 45 (clC cl0) := by rw [← hw3]; exact Blk.new _ _ _
  have k1 := (k1.below b2 k1.lt).below b3 (by omega)
  have k2 := k2.below b3 k2.lt
  have h13 := (b1.trans (b2.mono b1.size)).trans (b3.mono (Nat.le_trans b1.size b2.size))
  have HS : Hid (WiS w w3 w.heap.size w2.heap.size c d 0 c) := ⟨k1, k3, hc, fun i _ => by rw [if_neg (Nat.not_lt_zero _)], by omega, ⟨Nat.le_refl _, by omega⟩, h13⟩
  have LD := cl_load hd k2
  have X1 := Lib.hid hw1
  have X2 := Lib.hid hw2
  have X3 := Lib.hid hw3
  have HC := Lib.hid hc
  have HD := Lib.hid hd
  obtain ⟨m, hm⟩ : ∃ m, mxC c d = m := ⟨_, rfl⟩
  rw [hm]
  have HMM := Lib.hid hm
  clear hm
  clear b1 b2 b3 e1 e2 k1 k2 k3 h13 hw1 hw2 hw3 hc hd
  go_enter Try.func24, Try.ntmps24
  go_upto_region 1 with (first
    | refine wpList_valE rfl (exec_boxC rfl rfl X1.out) ?_
    | refine wpList_valE rfl (exec_boxC rfl rfl X2.out) ?_
    | refine wpList_valE rfl (exec_allocC rfl X3.out) ?_)
  go_upto_region 2 with (refine wpList_loadE LD _ rfl rfl rfl ?_)
  clear LD
  go_loopw [5, 6, 8] (fun _ _ s8 wr => ∃ (j : Nat) (cs : List Int), j ≤ 65 ∧ s8 = .int .i64 j ∧ Hid (WiS w wr w.heap.size w2.heap.size c d j cs)) (fun _ _ s8 _ => 65 - (intOf s8).toNat)
  case atStart => exact ⟨0, c, by decide, rfl, HS⟩
  case round =>
    clear HS
    obtain ⟨j, cs, hj, rfl, HI⟩ := hrel
    by_cases hlt : j < 65
    · have HLT := Lib.hid hlt
      have hst := HI.out.step hlt
      have cj : wr.cell? ⟨w.heap.size, j, none⟩ = some (.int .i64 (ig cs j)) := (HI.out.k.cell j).trans (clC_get (by rw [HI.out.l]; exact hlt))
      have fj : wr.frozen? ⟨w.heap.size, j, none⟩ = false := HI.out.k.frozen j
      rw [HI.out.v j hlt, if_neg (Nat.lt_irrefl _)] at cj
      have HS := Lib.hid hst
      have j5 : (j : Int) < 65 := by omega
      obtain ⟨p, hp⟩ : ∃ p, ig c j = p := ⟨_, rfl⟩
      obtain ⟨q, hq⟩ : ∃ q, ig d j = q := ⟨_, rfl⟩
      rw [hp, hq] at HS
      rw [hp] at cj
      have XI : ∀ (o : Oper) (ρ : Operand → Value) (W : World), o.op = .index 45 (.tmp 7) (.tmp 8) → ρ (.tmp 7) = .agg (clC d) → ρ (.tmp 8) = .int .i64 (j : Int) → (execOp ρ o).run Try.prog W = .ok (.value (.int .i64 q)) W := fun o ρ W h1 h2 h3 => by rw [← hq]; exact exec_indexC h1 h2 h3 hlt HD.out
      have HXI := Lib.hid XI
      clear hst hp hq XI
      go_wp2_with (refine wpList_valE rfl (HXI.out _ _ _ rfl rfl rfl) ?_)
      go_roundw
      case rel => exact ⟨j + 1, _, by have := HLT.out; omega, by go_num, HS⟩
      case measure => have := HLT.out; simp [intOf]; omega
    · obtain rfl : j = 65 := by omega
      obtain rfl := HI.out.done HC.out HD.out
      have hl := mxC_len HC.out HD.out
      have LD := cl_load hl HI.out.k
      have ST := cl_store (d := mxC c d) cl0_len hl HI.out.r
      have k5 := cl_stored (d := mxC c d) cl0_len hl HI.out.r
      obtain ⟨w4, hw4⟩ : ∃ x, wr.setCells w2.heap.size 0 (clC (mxC c d)).toList = x := ⟨_, rfl⟩
      rw [hw4] at ST k5
      have hB : Below w.heap.size w w4 := by
        have t2 : Tch (fun k => k = w2.heap.size) wr w4 := by rw [← hw4]; exact Tch.setCells (S := fun k => k = w2.heap.size) rfl _ _ wr (Tch.refl _ wr)
        exact HI.out.h.trans (t2.below HI.out.h.size (fun k hk => by subst hk; exact HI.out.lo.2))
      have HB := Lib.hid hB
      have HK := Lib.hid k5
      have HL := Lib.hid hl
      have hm := HMM.out
      rw [hm] at LD ST HK HL
      clear hB k5 hl hw4 hm
      go_wp2_with (first
        | refine wpList_loadE LD _ rfl rfl rfl ?_
        | refine wpList_storeE ST _ _ rfl rfl rfl rfl ?_)
      refine bodyPost_ret (v := .agg (clC m)) ?_ rfl ⟨rfl, HB.out⟩
      exact results_cell_row Try.results24 _ _ _ _ _ _ _ rfl HK.out Try.underlying45 rfl (by rw [clC_size, HL.out]; exact clTN)
theorem pc_intC : Try.prog.cellsOf 3 = 1 := by kernel_rfl
theorem run_itemsC {c d : List Int} (hc : c.length = 65) (hd : d.length = 65) (w : World) : ∀ is : List Nat, (∀ i ∈ is, i < 65) → (Op.eqItems 9999 3 1 (clC c) (clC d) is).run Try.prog w = .ok (is.all fun i => ig c i == ig d i) w
  | [], _ => by simp [Op.eqItems]
  | i :: is, h => by
    have hi : i < 65 := h i (List.mem_cons_self ..)
    have h1 : (clC c)[i]? = some (.int .i64 (ig c i)) := clC_get (by omega)
    have h2 : (clC d)[i]? = some (.int .i64 (ig d i)) := clC_get (by omega)
    have p1 : (part 3 (clC c) (i * 1)).run Try.prog w = .ok (.int .i64 (ig c i)) w := by simp [part, isAgg, run_underlying Try.underlying3, h1]
    have p2 : (part 3 (clC d) (i * 1)).run Try.prog w = .ok (.int .i64 (ig d i)) w := by simp [part, isAgg, run_underlying Try.underlying3, h2]
    have p3 : (Op.equalIn (9998 + 1) 3 (.int .i64 (ig c i)) (.int .i64 (ig d i))).run Try.prog w = .ok (ig c i == ig d i) w := run_equalIn_int w 9998 3 .i64 .i64 _ _ Try.underlying3
    have ih := run_itemsC hc hd w is (fun k hk => h k (List.mem_cons_of_mem _ hk))
    rw [Op.eqItems]
    simp only [Sem.run_bind, p1, p2, Result.andThen_ok, show (9999 : Nat) = 9998 + 1 from rfl, p3, List.all_cons]
    cases hq : (ig c i == ig d i)
    · simp
    · simpa using ih
theorem all_igC {c d : List Int} (hc : c.length = 65) (hd : d.length = 65) : ((List.range 65).all fun i => ig c i == ig d i) = decide (c = d) := by
  refine Bool.eq_iff_iff.2 ?_
  rw [List.all_eq_true, decide_eq_true_iff]
  constructor
  · intro h
    exact ext_getD (by rw [hc, hd]) fun k hk => by simpa using h k (List.mem_range.2 (by omega))
  · rintro rfl i _
    simp
theorem exec_eqlC {o : Oper} {ρ : Operand → Value} {x y : Operand} {c d : List Int} {w : World} (ho : o.op = .binOp .eql 45 x y 45) (hx : ρ x = .agg (clC c)) (hy : ρ y = .agg (clC d)) (hc : c.length = 65) (hd : d.length = 65) : (execOp ρ o).run Try.prog w = .ok (.value (.bool (decide (c = d)))) w := by
  obtain ⟨i, hi, _⟩ := Option.map_eq_some_iff.1 (show (Try.prog.info? 3).map (·.size) = some 1 by kernel_rfl)
  have h1 := run_equalIn_array (P := Try.prog) (w := w) 9999 (clC c) (clC d) Try.underlying45 hi
  rw [pc_intC, run_itemsC hc hd w _ (fun i hi => List.mem_range.1 hi), all_igC hc hd] at h1
  have h2 := run_eqGuard_agg w .eql 45 x y (clC c) (clC d) (P := Try.prog) (by kernel_rfl)
  unfold execOp
  simp only [ho, hx, hy, Sem.run_bind, h2, Result.andThen_ok, run_eql_struct]
  rw [show (10000 : Nat) = 9999 + 1 from rfl, h1]
  rfl
end Go.Proofs.Ytoodifpkconfcaa
