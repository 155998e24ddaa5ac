/- quant.Table's rows: a row of distances that grows in a captured list of rows. Printed by genTrC.py. -/
import Derived.Test.YtlmgfbhgamchgaaTrB
import Derived.Test.YtlmgfbhgamchgaaYlP
import Derived.Test.YtlmgfbhgamchgaaRow
import Derived.Great.BuildSlice
import Derived.Deep.AppendLies
import Derived.Maps.AppendAt
import Derived.Laws.OwnMore
import Derived.Laws.MakeOwn
import Derived.Deep.Draws
namespace Go.Proofs.Ytlmgfbhgamchgaa
open Go.RowKit
theorem info_u64T : (Try.prog.info? 23).map (fun i => (i.zero, i.size, i.bytes)) = some (some (.int .u64 0), 1, 8) := by kernel_rfl
theorem szU64s : ∀ w, (sizeOf (Try.prog.elem 32)).run Try.prog w = .ok 1 w := fun w => by kernel_rfl
theorem load_u64s {w : World} {b o : Nat} {A : Option Addr} {n c : Nat} (h : w.cell? ⟨b, o, none⟩ = some (.slice A n c)) : (Instr.loadAt 25 (.pointer (some ⟨b, o, none⟩))).run Try.prog w = .ok (.slice A n c) w := by
  simp [go_sem, h]
theorem load_u64ss {w : World} {b o : Nat} {A : Option Addr} {n c : Nat} (h : w.cell? ⟨b, o, none⟩ = some (.slice A n c)) : (Instr.loadAt 32 (.pointer (some ⟨b, o, none⟩))).run Try.prog w = .ok (.slice A n c) w := by
  simp [go_sem, h]
theorem store_u64s {w : World} {b o : Nat} {u : Value} {A : Option Addr} {n c : Nat} (h : w.cell? ⟨b, o, none⟩ = some u) (hf : w.frozen? ⟨b, o, none⟩ = false) : (Instr.storeAt 25 (.pointer (some ⟨b, o, none⟩)) (.slice A n c)).run Try.prog w = .ok () (w.setCell ⟨b, o, none⟩ (.slice A n c)) := by
  simp [go_sem, h, hf]
theorem run_u64 (w : World) (x : Int) : (Instr.buildSlice 25 1 #[(0, .int .u64 x)]).run Try.prog w = .ok (.slice (some ⟨w.heap.size, 0, none⟩) 1 1) (w.alloc (.cells #[.int .u64 x] 23)) := by
  obtain ⟨i, hi, hz, hz1, hz2⟩ := info_parts info_u64T
  refine Go.run_buildSlice w _ _ 1 _ _ i (.int .u64 0) Try.underlying25 hi hz (by rw [hz1]; decide) (by rw [hz1]; decide) ?_
  rw [hz1]; kernel_rfl
theorem exec_u64 {o : Oper} {a : Act} {x : Int} {parts : Array (Nat × Operand)} (ho : o.op = .buildSlice 25 1 parts) (hp : (parts.map fun (i, y) => (i, a.eval y)) = #[(0, .int .u64 x)]) (w : World) : (execOp a.eval o).run Try.prog w = .ok (.value (.slice (some ⟨w.heap.size, 0, none⟩) 1 1)) (w.alloc (.cells #[.int .u64 x] 23)) := by
  unfold execOp
  simp only [ho, hp, Sem.run_bind, run_u64, Result.andThen_ok]
  rfl
theorem exec_loadT {w : World} {o : Oper} {a : Act} {ty : TypeId} {p v : Value} {x : Operand} (ho : o.op = .load ty x) (hx : a.eval x = p) (hr : (Instr.loadAt ty p).run Try.prog w = .ok v w) : (execOp a.eval o).run Try.prog w = .ok (.value v) w := by
  unfold execOp
  simp only [ho, hx, Sem.run_bind, hr, Result.andThen_ok]
  rfl
theorem yieldsIf_indexT {ops : Array Oper} {S : World → Prop} {o : Oper} {a : Act} {T E sz b off n c k : Nat} (hT : Try.prog.underlying T = some (.slice E)) (hz : ∀ w, (sizeOf (Try.prog.elem T)).run Try.prog w = .ok sz w) (hw : Region.wanted o (yielded ops a.tmps) = true) (x y : Operand) (ho : o.op = .indexAddr T x y) (hx : a.eval x = .slice (some ⟨b, off, none⟩) n c) (hy : a.eval y = .int .i64 (k : Nat)) (hk : k < n) :
    YieldsIf Try.prog ops S o (.pointer (some ⟨b, off + k * sz, none⟩)) a := by
  refine .inl ⟨hw, fun w _ => ?_⟩
  have he : Try.prog.elem T = E := by unfold Program.elem; rw [hT]
  rw [he] at hz
  have h0 : ¬ ((k : Int) < 0) := by omega
  unfold execOp
  simp only [ho, hx, hy]
  simp [go_sem, hT, hz, hk]
theorem wpAnyH_makeT {P : Program} {ops : Array Oper} {Q : Exit → Act → World → Prop} {md : Region.Mode} {S : World → Prop} {fuel : Nat} {listed : Array Bool} {a : Act} {w w' : World} {o : Oper} (i : Nat) (v : Value) (hr : Region.ready md ops listed = [i]) (ho : ops[i]? = some o) (hw : Region.wanted o (yielded ops a.tmps) = true)
    (hrun : (execOp a.eval o).run P w = .ok (.value v) w') (hS : S w') (h : wpAnyH P md ops Q S fuel (listed.setIfInBounds i true) (a.put o.dst v) w') : wpAnyH P md ops Q S (fuel + 1) listed a w := by
  refine wpAnyH_ready hr (by simp) (AllReadyH.cons ho (fun K hK => ?_) AllReadyH.nil)
  rw [if_pos hw]
  unfold Oper.wp
  rw [hrun]
  exact hK.out _ _ hS (fun _ => h)
theorem grownBy_transT {a b c : World} {r : Option Nat} (h : a.grownBy b none) (h' : b.grownBy c r) : a.grownBy c r :=
  ⟨h'.os.trans h.os, h'.tape.trans h.tape, h'.output.trans h.output, Nat.le_trans h.size h'.size, fun k hk hn => (h'.block k (Nat.lt_of_lt_of_le hk h.size) hn).trans (h.block k hk (by intro q; cases q))⟩
section
variable {P : Program} {ops : Array Oper} {Q : Exit → Act → World → Prop} {md : Region.Mode} {S : World → Prop} {fuel : Nat} {listed : Array Bool} {a : Act} {w : World} {o : Oper}
/-- In a region that draws: the one operation that may come up next appends an element. -/
theorem wpAnyH_push1T (i : Nat) (hr : Region.ready md ops listed = [i]) (ho : ops[i]? = some o) (s x : Operand) (T e sz bytes : Nat) (z : Value)
    (hop : o.op = .call { callee := .builtin .append, args := #[s, x], argTypes := #[T, T] }) (hT : P.underlying T = some (.slice e)) (hinfo : (P.info? e).map (fun i => (i.zero, i.size, i.bytes)) = some (some z, sz, bytes)) (hzs : z.cells.size = sz) (hsz : 0 < sz)
    (wr : World) (base : Nat) (v : Value) (n : Nat) (xs : List Value) (cs : Array Value) (hw0 : w = wr.alloc (.cells cs e)) (hw : Region.wanted o (yielded ops a.tmps) = true) (hs : a.eval s = v) (hown : wr.ownsRow base e sz v n xs)
    (hx : a.eval x = .slice (some ⟨wr.heap.size, 0, none⟩) 1 1) (hcs : cs.size = sz) (h1 : ∀ u ∈ cs.toList, u.oneCell' = true) (hn : n ≤ 1099511627776) (hby : bytes ≤ 88) (hbase : base ≤ wr.heap.size)
    (h : ∀ g c' w', w'.ownsRow base e sz (.slice (some ⟨g, 0, none⟩) (n + 1) c') (n + 1) (xs ++ cs.toList) → wr.grownBy w' v.ownBlock → Below base wr w' → (v.ownBlock = some g ∨ wr.heap.size ≤ g) → S w' ∧ wpAnyH P md ops Q S fuel (listed.setIfInBounds i true) (a.put o.dst (.slice (some ⟨g, 0, none⟩) (n + 1) c')) w') :
    wpAnyH P md ops Q S (fuel + 1) listed a w := by
  subst hw0
  obtain ⟨i, hi, hz, hz1, hz2⟩ := info_parts hinfo
  have hb2 : (n + 1) * bytes ≤ (n + 1) * 88 := Nat.mul_le_mul_left _ hby
  refine wpAnyH_ready hr (by simp) (AllReadyH.cons ho (fun K hK => ?_) AllReadyH.nil)
  rw [if_pos hw]
  refine wp_append_lies (wr.alloc (.cells cs e)) s x T hop base e i z sz bytes hT hi hz hz1 hz2 hzs hsz v n xs hs (hown.alloc _) ⟨wr.heap.size, 0, none⟩ 1 1 cs.toList hx (by simpa using hcs)
    (World.news_of_block (cs := cs) (t := e) (fr := (0, 0)) (heap_alloc_new wr _)) h1 (by omega) (by unfold maxLen; omega) (by omega) (by simp; omega) _ rfl fun g cap w' h2 h3 h4 h5 => ?_
  obtain ⟨q1, q2⟩ := h g cap w' h2 (grownBy_transT (World.grownBy_alloc wr _ none) h3) (((Below.refl base wr).alloc hbase _).grown h3 (by simp; omega) fun k hk => (hown.lt k hk).1) (h4.imp_right fun q => by rw [q]; simp only [World.alloc, Array.size_push]; omega)
  exact hK.out _ _ q1 (fun _ => q2)
end
theorem ownsRow_apartT {w w' : World} {EB e sz n c : Nat} {A : Option Addr} {xs : List Value} (h : w.ownsRow EB e sz (.slice A n c) n xs) (hb : ∀ g, (Value.slice A n c).ownBlock = some g → w'.heap[g]? = w.heap[g]?) : w'.ownsRow EB e sz (.slice A n c) n xs := by
  obtain ⟨h1, h2⟩ := h
  refine ⟨h1, ?_⟩
  rcases h2 with h2 | ⟨g, cap, cur, e1, e2, e3, e4, e5, e6, e7⟩
  · exact .inl h2
  · exact .inr ⟨g, cap, cur, e1, e2, (hb g (by injection e1 with e1; subst e1; rfl)).trans e3, e4, e5, e6, e7⟩
/-- A list of one row, that grows, and where it is captured. -/
structure TbS (w : World) (B0 O T : Nat) (A : Option Addr) (k c : Nat) (xs : List Value) : Prop where
  oc : w.cell? ⟨O, 0, none⟩ = some (.slice (some ⟨T, 0, none⟩) 1 1)
  tb : Blk w T 25 #[.slice A k c]
  own : w.ownsRow B0 23 1 (.slice A k c) k xs
  ne : ∀ b, (Value.slice A k c).ownBlock = some b → b ≠ O ∧ b ≠ T
  ot : O ≠ T
  bO : B0 ≤ O
  bT : B0 ≤ T
section
variable {w w' : World} {B0 O T k c : Nat} {A : Option Addr} {xs : List Value}
theorem bel_boxT (w : World) (o : Obj) : Below w.heap.size w (w.alloc o) := (Below.refl _ w).alloc (Nat.le_refl _) _
theorem oc_lt {w : World} {O : Nat} {u : Value} (h : w.cell? ⟨O, 0, none⟩ = some u) : O < w.heap.size := block_lt_of_cell (a := ⟨O, 0, none⟩) h
theorem TbS.below (h : TbS w B0 O T A k c xs) (hb : Below w.heap.size w w') : TbS w' B0 O T A k c xs :=
  ⟨(hb.cell (p := ⟨O, 0, none⟩) (oc_lt h.oc)).trans h.oc, h.tb.below hb h.tb.lt, ownsRow_apartT h.own fun g hg => hb.block g (World.ownsRow.lt h.own g hg).2, h.ne, h.ot, h.bO, h.bT⟩
theorem TbS.tcell (h : TbS w B0 O T A k c xs) : w.cell? ⟨T, 0, none⟩ = some (.slice A k c) := h.tb.cell 0
theorem TbS.tcell1 (h : TbS w B0 O T A k c xs) {o : Obj} : (w.alloc o).cell? ⟨T, 0, none⟩ = some (.slice A k c) := (h.tb.alloc o).cell 0
theorem TbS.ocell5 (h : TbS w B0 O T A k c xs) {W5 : World} (hgr : w.grownBy W5 (Value.slice A k c).ownBlock) : W5.cell? ⟨O, 0, none⟩ = some (.slice (some ⟨T, 0, none⟩) 1 1) := by
  have := hgr.block O (oc_lt h.oc) (fun e => (h.ne O e.symm).1 rfl)
  have h2 := h.oc
  unfold World.cell? at h2 ⊢
  rw [this]; exact h2
theorem TbS.store5 (h : TbS w B0 O T A k c xs) {W5 : World} (hgr : w.grownBy W5 (Value.slice A k c).ownBlock) (A2 : Option Addr) (n2 c2 : Nat) : (Instr.storeAt 25 (.pointer (some ⟨T, 0 + 0 * 1, none⟩)) (.slice A2 n2 c2)).run Try.prog W5 = .ok () (W5.setCell ⟨T, 0, none⟩ (.slice A2 n2 c2)) := by
  have hb := h.tb.grown hgr (fun e => (h.ne T e.symm).2 rfl)
  exact store_u64s (hb.cell 0) (hb.frozen 0)
theorem TbS.push (h : TbS w B0 O T A k c xs) {W5 : World} {g c' : Nat} {ys : List Value} (hgr : w.grownBy W5 (Value.slice A k c).ownBlock) (hat : (Value.slice A k c).ownBlock = some g ∨ w.heap.size ≤ g) (ho : W5.ownsRow B0 23 1 (.slice (some ⟨g, 0, none⟩) (k + 1) c') (k + 1) (xs ++ ys)) :
    TbS (W5.setCell ⟨T, 0, none⟩ (.slice (some ⟨g, 0, none⟩) (k + 1) c')) B0 O T (some ⟨g, 0, none⟩) (k + 1) c' (xs ++ ys) := by
  have hb := h.tb.grown hgr (fun e => (h.ne T e.symm).2 rfl)
  have hO := h.ocell5 hgr
  have hg : g ≠ O ∧ g ≠ T := by
    rcases hat with e | e
    · exact h.ne g e
    · have h1 := oc_lt h.oc
      have h2 := h.tb.lt
      exact ⟨by omega, by omega⟩
  refine ⟨?_, hb.set_ 0 _, ownsRow_apartT ho fun b hbb => ?_, fun b hbb => ?_, h.ot, h.bO, h.bT⟩
  · have := Below.heap_setCell W5 ⟨T, 0, none⟩ (.slice (some ⟨g, 0, none⟩) (k + 1) c') O h.ot
    unfold World.cell? at hO ⊢
    rw [this]; exact hO
  · obtain rfl : g = b := by injection hbb
    exact Below.heap_setCell W5 ⟨T, 0, none⟩ _ g hg.2
  · obtain rfl : g = b := by injection hbb
    exact hg
end
/-- The distances up to a place. -/
def tabL (d : Nat → Nat) (n : Nat) : List Int := (List.range n).map fun j => ((d j : Nat) : Int)
theorem tabL_succ (d : Nat → Nat) (n : Nat) : tabL d (n + 1) = tabL d n ++ [((d n : Nat) : Int)] := by simp [tabL, List.range_succ]
theorem tabL_len (d : Nat → Nat) (n : Nat) : (tabL d n).length = n := by simp [tabL]
theorem tabL_ig {d : Nat → Nat} {n j : Nat} (h : j < n) : ig (tabL d n) j = ((d j : Nat) : Int) := by
  rw [tabL, ig, List.getD_eq_getElem?_getD, List.getElem?_map, List.getElem?_range h]; rfl
set_option maxRecDepth 100000 in
set_option maxHeartbeats 4000000 in
theorem q_tab1 (g : Nat) (A : Option Addr) (n c : Nat) (l : List Vc) (p : Vc) (bb O T B0 : Nat) (d : Nat → Nat) (w : World) (hbk : Bk w B0 g A n c l) (hn : n ≤ 30) (hp : p.At w B0) (hbb : w.cell? ⟨bb, 0, none⟩ = some (.slice (some ⟨g, 0, none⟩) 1 1))
    (hs : TbS w B0 O T none 0 0 []) (hB : B0 ≤ w.heap.size) (hd : ∀ j, d j = distE p.xs (lg (vxs l) j)) :
    Calls Try.prog 60 #[.int .i64 0, p.v, .pointer (some ⟨bb, 0, none⟩), .pointer (some ⟨O, 0, none⟩)] w fun e w' => e = .returned (.tuple #[]) ∧ (∃ A' c', TbS w' B0 O T A' n c' ((tabL d n).map (.int .u64))) ∧ Below B0 w w' := by
  have HK := Lib.hid hbk
  have HP := Lib.hid hp
  have HSW := Lib.hid hs
  have HBS := Lib.hid hB
  have HD := Lib.hid hd
  have hc0 := hbk.2.1
  have hl := hbk.2.2.1.len
  obtain ⟨PA, pn, pc, pxs⟩ := p
  simp only [Vc.v]
  clear hbk hp hs hB hd
  go_enter Try.func60, Try.ntmps60
  go_wp2_with fail
  clear hc0 hbb
  go_loopw [7, 13] (fun _ s13 wr => ∃ (k : Nat) (A' : Option Addr) (c' : Nat), k ≤ n ∧ s13 = .int .i64 k ∧ Hid (TbS wr B0 O T A' k c' ((tabL d k).map (.int .u64))) ∧ Hid (Below B0 w wr)) (fun _ s13 _ => n - (intOf s13).toNat)
  case atStart => exact ⟨0, none, 0, Nat.zero_le _, rfl, HSW, Below.refl _ _⟩
  case round =>
    obtain ⟨k, A', c', hk, rfl, HS0, HB0⟩ := hrel
    by_cases hlt : k < n
    · obtain ⟨b, o, v, rfl, hb, hu, hat, hc⟩ := (HK.out.2.2.1.below HB0.out).at_ hlt
      have HCV0 := Lib.hid (fun W (hW : Below B0 w W) => vdist ⟨PA, pn, pc, pxs⟩ v W B0 (HP.out.below hW) ((HK.out.below hW).2.2.1.2 v (List.mem_of_getElem? hu)))
      have hdx : distE pxs v.xs = d k := by rw [HD.out k, vxs_lg hu]
      simp only [hdx] at HCV0
      obtain ⟨VA, vn, vc, vxs0⟩ := v
      simp only [Vc.v] at hc HCV0
      obtain ⟨x, hx⟩ : ∃ x : Int, ((d k : Nat) : Int) = x := ⟨_, rfl⟩
      rw [hx] at HCV0
      have HTB : Hid ((tabL d k).map (Value.int .u64) ++ [.int .u64 x] = (tabL d (k + 1)).map (.int .u64)) := by show _ = _; rw [tabL_succ, hx, List.map_append]; rfl
      clear hdx hu hat hx hb
      go_upto_region 3 with fail
      refine wp_region_held_drew (S := fun W => W.cell? ⟨O, 0, none⟩ = some (.slice (some ⟨T, 0, none⟩) 1 1)) (by kernel_rfl) HS0.out.oc (fun hH => ?_)
      obtain ⟨W, hW⟩ : ∃ q, wr.drew = q := ⟨_, rfl⟩
      have HWr : Hid (Below wr.heap.size wr W) := by show Below _ _ _; rw [← hW]; exact below_drewN (Below.refl _ wr) 1
      have HS : Hid (TbS W B0 O T A' k c' ((tabL d k).map (.int .u64))) := HS0.out.below HWr.out
      have HB : Hid (Below B0 w W) := HB0.out.trans (HWr.out.mono (Nat.le_trans HBS.out HB0.out.size))
      have HSB : Hid (B0 ≤ W.heap.size) := Nat.le_trans HBS.out HB.out.size
      have HCV := Lib.hid (HCV0.out W HB.out)
      rw [hW] at hH ⊢
      clear hW HCV0 hc HWr
      have hH1 : (W.alloc (.cells #[.int .u64 x] 23)).cell? ⟨O, 0, none⟩ = some (.slice (some ⟨T, 0, none⟩) 1 1) := ((bel_boxT W _).cell (p := ⟨O, 0, none⟩) (oc_lt hH)).trans hH
      refine wpAnyH_take (i := 0) (v := .slice (some ⟨T, 0, none⟩) 1 1) rfl (by kernel_rfl) (by kernel_rfl) (by kernel_rfl) (fun _ _ _ h => h) (yieldsIf_loadP (by rfl) _ rfl rfl (fun _ q => load_u64ss q)) hH ?_
      (try simp only [List.getElem_toArray, List.getElem_cons_zero, Act.put, List.setIfInBounds_toArray, List.set_cons_zero, List.set_cons_succ])
      refine wpAnyH_take (i := 1) (v := .int .i64 0) rfl (by kernel_rfl) (by kernel_rfl) (by kernel_rfl) (fun _ _ _ h => h) (.inl ⟨by rfl, fun _ _ => by kernel_rfl⟩) hH ?_
      (try simp only [List.getElem_toArray, List.getElem_cons_zero, List.getElem_cons_succ, Act.put, List.setIfInBounds_toArray, List.set_cons_zero, List.set_cons_succ])
      refine wpAnyH_take (i := 2) (v := .slice (some ⟨T, 0, none⟩) 1 1) rfl (by kernel_rfl) (by kernel_rfl) (by kernel_rfl) (fun _ _ _ h => h) (yieldsIf_loadP (by rfl) _ rfl rfl (fun _ q => load_u64ss q)) hH ?_
      (try simp only [List.getElem_toArray, List.getElem_cons_zero, List.getElem_cons_succ, Act.put, List.setIfInBounds_toArray, List.set_cons_zero, List.set_cons_succ])
      refine wpAnyH_take (i := 3) (v := .int .i64 0) rfl (by kernel_rfl) (by kernel_rfl) (by kernel_rfl) (fun _ _ _ h => h) (.inl ⟨by rfl, fun _ _ => by kernel_rfl⟩) hH ?_
      (try simp only [List.getElem_toArray, List.getElem_cons_zero, List.getElem_cons_succ, Act.put, List.setIfInBounds_toArray, List.set_cons_zero, List.set_cons_succ])
      refine wpAnyH_take (i := 4) (v := .pointer (some ⟨T, 0 + 0 * 1, none⟩)) rfl (by kernel_rfl) (by kernel_rfl) (by kernel_rfl) (fun _ _ _ h => h) (yieldsIf_indexT (k := 0) Try.underlying32 szU64s (by rfl) _ _ rfl rfl rfl (by decide)) hH ?_
      (try simp only [List.getElem_toArray, List.getElem_cons_zero, List.getElem_cons_succ, Act.put, List.setIfInBounds_toArray, List.set_cons_zero, List.set_cons_succ])
      refine wpAnyH_take (i := 6) (v := .slice PA pn pc) rfl (by kernel_rfl) (by kernel_rfl) (by kernel_rfl) (fun _ _ _ h => h) (.inl ⟨by rfl, fun _ _ => by kernel_rfl⟩) hH ?_
      (try simp only [List.getElem_toArray, List.getElem_cons_zero, List.getElem_cons_succ, Act.put, List.setIfInBounds_toArray, List.set_cons_zero, List.set_cons_succ])
      refine wpAnyH_take (i := 7) (v := .slice VA vn vc) rfl (by kernel_rfl) (by kernel_rfl) (by kernel_rfl) (fun _ _ _ h => h) (.inl ⟨by rfl, fun _ _ => by kernel_rfl⟩) hH ?_
      (try simp only [List.getElem_toArray, List.getElem_cons_zero, List.getElem_cons_succ, Act.put, List.setIfInBounds_toArray, List.set_cons_zero, List.set_cons_succ])
      refine wpAnyH_all (rs := [5, 8]) (by kernel_rfl) (by simp) (fun i hi => ?_)
      rcases (by simpa using hi : i = 5 ∨ i = 8) with rfl | rfl
      · refine wpOp_value (w' := W) (.slice A' k c') (by rfl) (by kernel_rfl) (exec_loadT (by rfl) (by rfl) (load_u64s HS.out.tcell)) ⟨hH, ?_⟩
        (try simp only [List.getElem_toArray, List.getElem_cons_zero, List.getElem_cons_succ, Act.put, List.setIfInBounds_toArray, List.set_cons_zero, List.set_cons_succ])
        refine wpAnyH_call 8 19 #[.slice PA pn pc, .slice VA vn vc] _ (by kernel_rfl) (by rfl) (by kernel_rfl) (by kernel_rfl) HCV.out ?_
        rintro e w' ⟨rfl, rfl⟩
        refine ⟨_, rfl, hH, ?_⟩
        (try simp only [List.getElem_toArray, List.getElem_cons_zero, List.getElem_cons_succ, Act.put, List.setIfInBounds_toArray, List.set_cons_zero, List.set_cons_succ])
        refine wpAnyH_makeT 9 (.slice (some ⟨W.heap.size, 0, none⟩) 1 1) (by kernel_rfl) (by rfl) (by kernel_rfl) (exec_u64 (by rfl) (by kernel_rfl) W) hH1 ?_
        (try simp only [List.getElem_toArray, List.getElem_cons_zero, List.getElem_cons_succ, Act.put, List.setIfInBounds_toArray, List.set_cons_zero, List.set_cons_succ])
        refine wpAnyH_push1T 10 (by kernel_rfl) (by rfl) (.tmp 22) (.tmp 26) 25 23 1 8 _ rfl Try.underlying25 info_u64T rfl (by decide) W B0 (.slice A' k c') k ((tabL d k).map (.int .u64)) #[.int .u64 x] rfl (by kernel_rfl) rfl HS.out.own rfl rfl (by simp [Value.oneCell']) (by omega) (by decide) HSB.out ?_
        intro g2 c2 W5 ho hgr hb5 hat
        have hS5 := Lib.hid (HS.out.push hgr hat ho)
        have hB5 := Lib.hid (HB.out.trans (hb5.setCell (p := ⟨T, 0, none⟩) HS.out.bT (.slice (some ⟨g2, 0, none⟩) (k + 1) c2)))
        have hH5 : W5.cell? ⟨O, 0, none⟩ = some (.slice (some ⟨T, 0, none⟩) 1 1) := HS.out.ocell5 hgr
        refine ⟨hH5, ?_⟩
        (try simp only [List.getElem_toArray, List.getElem_cons_zero, List.getElem_cons_succ, Act.put, List.setIfInBounds_toArray, List.set_cons_zero, List.set_cons_succ])
        refine wpAnyH_take (i := 11) (v := .pointer (some ⟨T, 0 + 0 * 1, none⟩)) rfl (by kernel_rfl) (by kernel_rfl) (by kernel_rfl) (fun _ _ _ h => h) (yieldsIf_indexT (k := 0) Try.underlying32 szU64s (by rfl) _ _ rfl rfl rfl (by decide)) hH5 ?_
        (try simp only [List.getElem_toArray, List.getElem_cons_zero, List.getElem_cons_succ, Act.put, List.setIfInBounds_toArray, List.set_cons_zero, List.set_cons_succ])
        have SR := HS.out.store5 hgr (some ⟨g2, 0, none⟩) (k + 1) c2
        obtain ⟨V, hV⟩ : ∃ V, W5.setCell ⟨T, 0, none⟩ (.slice (some ⟨g2, 0, none⟩) (k + 1) c2) = V := ⟨_, rfl⟩
        rw [hV] at SR hS5 hB5
        have hHV := hS5.out.oc
        clear hV ho hgr hb5 hat
        refine wpAnyH_store 12 _ _ _ (by kernel_rfl) (by rfl) (by kernel_rfl) (by rfl) (by rfl) (by rfl) SR hHV ?_
        (try simp only [List.getElem_toArray, List.getElem_cons_zero, List.getElem_cons_succ, Act.put])
        refine wpAnyH_done (by kernel_rfl) ?_ _
        clear SR hHV hH5 hH hH1
        go_wp2_with fail
        go_roundw
        case rel => exact ⟨k + 1, _, _, by omega, by go_num, HTB.out ▸ hS5, hB5⟩
        case measure => simp [intOf]; omega
      · refine wpOp_call 19 #[.slice PA pn pc, .slice VA vn vc] _ (by rfl) (by kernel_rfl) (by kernel_rfl) HCV.out ?_
        rintro e w' ⟨rfl, rfl⟩
        refine ⟨_, rfl, hH, ?_⟩
        (try simp only [List.getElem_toArray, List.getElem_cons_zero, List.getElem_cons_succ, Act.put, List.setIfInBounds_toArray, List.set_cons_zero, List.set_cons_succ])
        refine wpAnyH_all (rs := [5, 9]) (by kernel_rfl) (by simp) (fun i hi => ?_)
        rcases (by simpa using hi : i = 5 ∨ i = 9) with rfl | rfl
        · refine wpOp_value (w' := W) (.slice A' k c') (by rfl) (by kernel_rfl) (exec_loadT (by rfl) (by rfl) (load_u64s HS.out.tcell)) ⟨hH, ?_⟩
          (try simp only [List.getElem_toArray, List.getElem_cons_zero, List.getElem_cons_succ, Act.put, List.setIfInBounds_toArray, List.set_cons_zero, List.set_cons_succ])
          refine wpAnyH_makeT 9 (.slice (some ⟨W.heap.size, 0, none⟩) 1 1) (by kernel_rfl) (by rfl) (by kernel_rfl) (exec_u64 (by rfl) (by kernel_rfl) W) hH1 ?_
          (try simp only [List.getElem_toArray, List.getElem_cons_zero, List.getElem_cons_succ, Act.put, List.setIfInBounds_toArray, List.set_cons_zero, List.set_cons_succ])
          refine wpAnyH_push1T 10 (by kernel_rfl) (by rfl) (.tmp 22) (.tmp 26) 25 23 1 8 _ rfl Try.underlying25 info_u64T rfl (by decide) W B0 (.slice A' k c') k ((tabL d k).map (.int .u64)) #[.int .u64 x] rfl (by kernel_rfl) rfl HS.out.own rfl rfl (by simp [Value.oneCell']) (by omega) (by decide) HSB.out ?_
          intro g2 c2 W5 ho hgr hb5 hat
          have hS5 := Lib.hid (HS.out.push hgr hat ho)
          have hB5 := Lib.hid (HB.out.trans (hb5.setCell (p := ⟨T, 0, none⟩) HS.out.bT (.slice (some ⟨g2, 0, none⟩) (k + 1) c2)))
          have hH5 : W5.cell? ⟨O, 0, none⟩ = some (.slice (some ⟨T, 0, none⟩) 1 1) := HS.out.ocell5 hgr
          refine ⟨hH5, ?_⟩
          (try simp only [List.getElem_toArray, List.getElem_cons_zero, List.getElem_cons_succ, Act.put, List.setIfInBounds_toArray, List.set_cons_zero, List.set_cons_succ])
          refine wpAnyH_take (i := 11) (v := .pointer (some ⟨T, 0 + 0 * 1, none⟩)) rfl (by kernel_rfl) (by kernel_rfl) (by kernel_rfl) (fun _ _ _ h => h) (yieldsIf_indexT (k := 0) Try.underlying32 szU64s (by rfl) _ _ rfl rfl rfl (by decide)) hH5 ?_
          (try simp only [List.getElem_toArray, List.getElem_cons_zero, List.getElem_cons_succ, Act.put, List.setIfInBounds_toArray, List.set_cons_zero, List.set_cons_succ])
          have SR := HS.out.store5 hgr (some ⟨g2, 0, none⟩) (k + 1) c2
          obtain ⟨V, hV⟩ : ∃ V, W5.setCell ⟨T, 0, none⟩ (.slice (some ⟨g2, 0, none⟩) (k + 1) c2) = V := ⟨_, rfl⟩
          rw [hV] at SR hS5 hB5
          have hHV := hS5.out.oc
          clear hV ho hgr hb5 hat
          refine wpAnyH_store 12 _ _ _ (by kernel_rfl) (by rfl) (by kernel_rfl) (by rfl) (by rfl) (by rfl) SR hHV ?_
          (try simp only [List.getElem_toArray, List.getElem_cons_zero, List.getElem_cons_succ, Act.put])
          refine wpAnyH_done (by kernel_rfl) ?_ _
          clear SR hHV hH5 hH hH1
          go_wp2_with fail
          go_roundw
          case rel => exact ⟨k + 1, _, _, by omega, by go_num, HTB.out ▸ hS5, hB5⟩
          case measure => simp [intOf]; omega
        · refine wpOp_value (w' := W.alloc (.cells #[.int .u64 x] 23)) (.slice (some ⟨W.heap.size, 0, none⟩) 1 1) (by rfl) (by kernel_rfl) (exec_u64 (by rfl) (by kernel_rfl) W) ⟨hH1, ?_⟩
          (try simp only [List.getElem_toArray, List.getElem_cons_zero, List.getElem_cons_succ, Act.put, List.setIfInBounds_toArray, List.set_cons_zero, List.set_cons_succ])
          refine wpAnyH_value 5 (.slice A' k c') (by kernel_rfl) (by rfl) (by kernel_rfl) (exec_loadT (by rfl) (by rfl) (load_u64s HS.out.tcell1)) hH1 ?_
          (try simp only [List.getElem_toArray, List.getElem_cons_zero, List.getElem_cons_succ, Act.put, List.setIfInBounds_toArray, List.set_cons_zero, List.set_cons_succ])
          refine wpAnyH_push1T 10 (by kernel_rfl) (by rfl) (.tmp 22) (.tmp 26) 25 23 1 8 _ rfl Try.underlying25 info_u64T rfl (by decide) W B0 (.slice A' k c') k ((tabL d k).map (.int .u64)) #[.int .u64 x] rfl (by kernel_rfl) rfl HS.out.own rfl rfl (by simp [Value.oneCell']) (by omega) (by decide) HSB.out ?_
          intro g2 c2 W5 ho hgr hb5 hat
          have hS5 := Lib.hid (HS.out.push hgr hat ho)
          have hB5 := Lib.hid (HB.out.trans (hb5.setCell (p := ⟨T, 0, none⟩) HS.out.bT (.slice (some ⟨g2, 0, none⟩) (k + 1) c2)))
          have hH5 : W5.cell? ⟨O, 0, none⟩ = some (.slice (some ⟨T, 0, none⟩) 1 1) := HS.out.ocell5 hgr
          refine ⟨hH5, ?_⟩
          (try simp only [List.getElem_toArray, List.getElem_cons_zero, List.getElem_cons_succ, Act.put, List.setIfInBounds_toArray, List.set_cons_zero, List.set_cons_succ])
          refine wpAnyH_take (i := 11) (v := .pointer (some ⟨T, 0 + 0 * 1, none⟩)) rfl (by kernel_rfl) (by kernel_rfl) (by kernel_rfl) (fun _ _ _ h => h) (yieldsIf_indexT (k := 0) Try.underlying32 szU64s (by rfl) _ _ rfl rfl rfl (by decide)) hH5 ?_
          (try simp only [List.getElem_toArray, List.getElem_cons_zero, List.getElem_cons_succ, Act.put, List.setIfInBounds_toArray, List.set_cons_zero, List.set_cons_succ])
          have SR := HS.out.store5 hgr (some ⟨g2, 0, none⟩) (k + 1) c2
          obtain ⟨V, hV⟩ : ∃ V, W5.setCell ⟨T, 0, none⟩ (.slice (some ⟨g2, 0, none⟩) (k + 1) c2) = V := ⟨_, rfl⟩
          rw [hV] at SR hS5 hB5
          have hHV := hS5.out.oc
          clear hV ho hgr hb5 hat
          refine wpAnyH_store 12 _ _ _ (by kernel_rfl) (by rfl) (by kernel_rfl) (by rfl) (by rfl) (by rfl) SR hHV ?_
          (try simp only [List.getElem_toArray, List.getElem_cons_zero, List.getElem_cons_succ, Act.put])
          refine wpAnyH_done (by kernel_rfl) ?_ _
          clear SR hHV hH5 hH hH1
          go_wp2_with fail
          go_roundw
          case rel => exact ⟨k + 1, _, _, by omega, by go_num, HTB.out ▸ hS5, hB5⟩
          case measure => simp [intOf]; omega
    · obtain rfl : k = n := by omega
      go_wp2_with fail
      go_end0
      exact ⟨rfl, ⟨A', c', HS0.out⟩, HB0.out⟩
end Go.Proofs.Ytlmgfbhgamchgaa
