/- cluster.Step. Printed by genTrI.py. -/
import Derived.Test.YtlmgfbhgamchgaaTrH
namespace Go.Proofs.Ytlmgfbhgamchgaa
open Go.RowKit
theorem info_vss : (Try.prog.info? 34).map (fun i => (i.zero, i.size, i.bytes)) = some (some (.slice none 0 0), 1, 24) := by kernel_rfl
theorem info_vs : (Try.prog.info? 22).map (fun i => (i.zero, i.size, i.bytes)) = some (some (.slice none 0 0), 1, 24) := by kernel_rfl
theorem madeL (v : Value) (_h : v.oneCell' = true) (n : Nat) : madeCells #[v] n = (List.replicate n v).toArray := by
  rw [← toList_madeCells_one v n]
theorem szVss : ∀ w, (sizeOf (Try.prog.elem 35)).run Try.prog w = .ok 1 w := fun w => by kernel_rfl
theorem load_i32s {w : World} {b o : Nat} {A : Option Addr} {n c : Nat} (h : w.cell? ⟨b, o, none⟩ = some (.slice A n c)) : (Instr.loadAt 22 (.pointer (some ⟨b, o, none⟩))).run Try.prog w = .ok (.slice A n c) w := by
  simp [go_sem, h]
theorem load_i32ss {w : World} {b o : Nat} {A : Option Addr} {n c : Nat} (h : w.cell? ⟨b, o, none⟩ = some (.slice A n c)) : (Instr.loadAt 34 (.pointer (some ⟨b, o, none⟩))).run Try.prog w = .ok (.slice A n c) w := by
  simp [go_sem, h]
theorem run_vc (w : World) (A : Option Addr) (n c : Nat) : (Instr.buildSlice 34 1 #[(0, .slice A n c)]).run Try.prog w = .ok (.slice (some ⟨w.heap.size, 0, none⟩) 1 1) (w.alloc (.cells #[.slice A n c] 22)) := by
  obtain ⟨i, hi, hz, hz1, hz2⟩ := info_parts info_vs
  refine Go.run_buildSlice w _ _ 1 _ _ i (.slice none 0 0) Try.underlying34 hi hz (by rw [hz1]; decide) (by rw [hz1]; decide) ?_
  rw [hz1]; kernel_rfl
theorem exec_vc {o : Oper} {a : Act} {A : Option Addr} {n c : Nat} {parts : Array (Nat × Operand)} (ho : o.op = .buildSlice 34 1 parts) (hp : (parts.map fun (i, y) => (i, a.eval y)) = #[(0, .slice A n c)]) (w : World) : (execOp a.eval o).run Try.prog w = .ok (.value (.slice (some ⟨w.heap.size, 0, none⟩) 1 1)) (w.alloc (.cells #[.slice A n c] 22)) := by
  unfold execOp
  simp only [ho, hp, Sem.run_bind, run_vc, Result.andThen_ok]
  rfl
theorem yieldsIf_lssT {P : Program} {ops : Array Oper} {S : World → Prop} {o : Oper} {a : Act} {t t' : TypeId} {k : IntKind} {m n : Int} {r : Bool} (hw : Region.wanted o (yielded ops a.tmps) = true) (x y : Operand) (ho : o.op = .binOp .lss t x y t') (hx : a.eval x = .int k m) (hy : a.eval y = .int k n) (hr : decide (m < n) = r) :
    YieldsIf P ops S o (.bool r) a := by
  refine .inl ⟨hw, fun w _ => ?_⟩
  subst hr
  unfold execOp
  simp only [ho, hx, hy]
  simp [go_sem]
theorem vxs_filter (l : List Vc) (cs : List (List Int)) (j : Nat) : vxs (l.filter fun v => (gOf cs v.xs).1 == j) = memL (vxs l) cs j := by
  unfold vxs memL
  rw [List.filter_map]
  rfl
/-- The next centers. -/
def RetS (d : Nat) (vs cs : List (List Int)) (n2 : Nat) (w : World) (e : Ending) (w' : World) : Prop := ∃ O l', e = .returned (.slice (some ⟨O, 0, none⟩) n2 n2) ∧ Vcs w' w'.heap.size (some ⟨O, 0, none⟩) n2 l' ∧ vxs l' = stepL d vs cs ∧ Below w.heap.size w w'
theorem filt_step {l : List Vc} {cs : List (List Int)} {k j : Nat} {u : Vc} (hu : l[k]? = some u) {f : Nat → Mr} (hf : ∀ i, (f i).xs = (l.take k).filter fun v => (gOf cs v.xs).1 == i) (hj : (gOf cs u.xs).1 = j) {g c' m : Nat} : ∀ i, (updM f j ⟨some ⟨g, 0, none⟩, m, c', (f j).xs ++ [u]⟩ i).xs = (l.take (k + 1)).filter fun v => (gOf cs v.xs).1 == i := by
  intro i
  rw [List.take_add_one, hu, Option.toList_some, List.filter_append]
  by_cases e : i = j
  · subst e
    rw [updM_self]
    show (f i).xs ++ [u] = _
    rw [hf i]
    congr 1
    simp [hj]
  · rw [updM_ne e, hf i]
    have : ((gOf cs u.xs).1 == i) = false := by rw [beq_eq_false_iff_ne, hj]; exact fun q => e q.symm
    simp [this]
set_option maxRecDepth 100000 in
set_option maxHeartbeats 8000000 in
theorem cl_step (A : Option Addr) (n c : Nat) (l : List Vc) (A2 : Option Addr) (n2 c2 : Nat) (l2 : List Vc) (d : Nat) (w : World) (hl : Vcs w w.heap.size A n l) (hl2 : Vcs w w.heap.size A2 n2 l2) (hn : n ≤ 30) (h1 : 1 ≤ n2) (hn2 : n2 ≤ 30) (hc2 : n2 ≤ c2)
    (hd1 : 1 ≤ d) (hd2 : d ≤ 4096) (ho : ∀ v ∈ vxs l, OkV d v) (ho2 : ∀ v ∈ vxs l2, OkV d v) :
    Calls Try.prog 15 #[.slice A n c, .slice A2 n2 c2] w (RetS d (vxs l) (vxs l2) n2 w) := by
  have HL := Lib.hid hl
  have HL2 := Lib.hid hl2
  have HO := Lib.hid ho
  have HO2 := Lib.hid ho2
  have HLN : Hid (l.length = n) := hl.len
  have HLN2 : Hid (l2.length = n2) := hl2.len
  have HVN2 : Hid ((vxs l2).length = n2) := by show _ = _; rw [vxs_len, hl2.len]
  have HGR := Lib.hid (fun (W : World) (hb : Below w.heap.size w W) => cl_groups A n c l A2 n2 c2 l2 W (hl.on (Nat.le_refl _) hb) (hl2.on (Nat.le_refl _) hb) hn h1 hn2 hc2)
  have hmk1 := fun (kl kc : IntKind) => run_make_row' (P := Try.prog) 35 34 (.slice none 0 0) 24 Try.underlying35 info_vss rfl kl kc n2 (by omega) (by omega)
  have hmk2 := fun (kl kc : IntKind) => run_make_row' (P := Try.prog) 34 22 (.slice none 0 0) 24 Try.underlying34 info_vs rfl kl kc n2 (by omega) (by omega)
  have HMK2 := Lib.hid hmk2
  obtain ⟨w1, hw1⟩ : ∃ W, w.alloc (.cells (madeCells #[.slice none 0 0] n2) 34) = W := ⟨_, rfl⟩
  have B1 : Hid (Below w.heap.size w w1) := by show Below _ _ _; rw [← hw1]; exact bel_boxT _ _
  have s1 : w1.heap.size = w.heap.size + 1 := by rw [← hw1]; simp only [World.alloc, Array.size_push]
  have K1 : Hid (Blk w1 w.heap.size 34 (mrC (fun _ => mr0) n2).toArray) := by
    show Blk _ _ _ _
    rw [← hw1, madeL _ rfl]
    have : mrC (fun _ => mr0) n2 = List.replicate n2 (Value.slice none 0 0) := by
      unfold mrC
      rw [List.map_const', List.length_range]; rfl
    rw [this]
    exact Blk.new _ _ _
  clear hl hl2 ho ho2 hmk2
  go_enter Try.func15, Try.ntmps15
  go_upto_region 2 with fail
  (try rw [hw1])
  clear hmk1 hw1
  go_wp2_with (go_at_call 16; (with_reducible refine (HGR.out w1 B1.out).mono ?_); rintro e w2 ⟨E, rfl, hEb, hrd, hb2⟩; have B2 := Lib.hid hb2; have R2 := Lib.hid hrd; have EB := Lib.hid hEb; clear hb2 hrd hEb)
  have hs2 := B2.out.size
  have K2 : Hid (MbS w2 w2.heap.size w.heap.size n2 (fun _ => mr0)) :=
    ⟨K1.out.below B2.out (by omega), fun j hj => World.ownsRow_nil _ _ _ _, (fun j hj b h => by cases h), (fun i j hi hj hne b h => by cases h)⟩
  have B12 : Hid (Below w.heap.size w w2) := B1.out.trans (B2.out.mono (by omega))
  clear HGR K1 B1 B2
  go_loopw [6, 7, 20] (fun _ _ s20 wr => ∃ (k : Nat) (f : Nat → Mr), k ≤ n ∧ s20 = .int .i64 k ∧ Hid (MbS wr w2.heap.size w.heap.size n2 f) ∧ Hid (∀ i, (f i).xs = (l.take k).filter fun v => (gOf (vxs l2) v.xs).1 == i) ∧ Hid (∀ i, (f i).n = (f i).xs.length) ∧ Hid (Tch (fun k => k = w.heap.size) w2 wr)) (fun _ _ s20 _ => n - (intOf s20).toNat)
  case atStart => exact ⟨0, fun _ => mr0, Nat.zero_le _, rfl, K2, Lib.hid (fun i => by simp [mr0]), Lib.hid (fun i => rfl), Tch.refl _ _⟩
  case round =>
    clear K2
    obtain ⟨k, f, hk, rfl, HM, HX, HN, HT⟩ := hrel
    by_cases hlt : k < n
    · obtain ⟨lb, lo, u, rfl, hlb, hu, hat, hcl0⟩ := (HL.out.below B12.out).at_ hlt
      have hrE := R2.out.atI (k := k) hlt
      obtain ⟨eb, eo, eE, heb, hcE⟩ := hrE
      injection eE with eE
      injection eE with e1 e2
      subst e1 e2
      have hg := grs_ig (vs := vxs l) (cs := vxs l2) (i := k) (by rw [vxs_len, HLN.out]; exact hlt)
      rw [vxs_lg hu] at hg
      rw [hg] at hcE
      have hjl := gOf_lt (cs := vxs l2) u.xs (by rw [HVN2.out]; omega)
      rw [HVN2.out] at hjl
      obtain ⟨j, hj⟩ : ∃ j, (gOf (vxs l2) u.xs).1 = j := ⟨_, rfl⟩
      have HFS := Lib.hid (fun (g c' m : Nat) => filt_step (g := g) (c' := c') (m := m) hu HX.out hj)
      rw [hj] at hcE hjl
      have HEN : Hid (E ≠ w.heap.size) := by have := EB.out; show E ≠ _; omega
      have hcE := (HT.out.cell (p := ⟨E, 0 + k, none⟩) heb (by show ¬ E = _; exact HEN.out)).trans hcE
      have hlbs : lb < w2.heap.size := by omega
      have hcl := (HT.out.cell (p := ⟨lb, lo + k, none⟩) hlbs (by show ¬ lb = _; omega)).trans hcl0
      have hfl : (f j).n ≤ 30 := by
        rw [HN.out j, HX.out j]
        exact Nat.le_trans (List.length_filter_le _ _) (by rw [List.length_take]; omega)
      obtain ⟨r, hr⟩ : ∃ r, f j = r := ⟨_, rfl⟩
      have HNJ : Hid (∀ (g c' : Nat) (i : Nat), (updM f j ⟨some ⟨g, 0, none⟩, (f j).n + 1, c', (f j).xs ++ [u]⟩ i).n = (updM f j ⟨some ⟨g, 0, none⟩, (f j).n + 1, c', (f j).xs ++ [u]⟩ i).xs.length) := fun g c' i => by
        by_cases e : i = j
        · subst e; rw [updM_self]; simp [HN.out i]
        · rw [updM_ne e]; exact HN.out i
      rw [hr] at HFS HNJ hfl
      obtain ⟨FA, fn, fc, fx⟩ := r
      simp only at HFS HNJ hfl
      have HR := Lib.hid hr
      obtain ⟨UA, un, uc, ux⟩ := u
      simp only [Vc.v] at hcl
      rw [Nat.zero_add] at hcE
      clear hr hg hj hu hat hcl0 HX HN
      go_upto_region 5 with fail
      refine wp_region_held_drew (S := fun W => W.cell? ⟨lb, lo + k * 1, none⟩ = some (.slice UA un uc)) (by kernel_rfl) (by rw [Nat.mul_one]; exact hcl) (fun hH => ?_)
      obtain ⟨W, hW⟩ : ∃ q, wr.drew = q := ⟨_, rfl⟩
      have HWr : Hid (Below wr.heap.size wr W) := by show Below _ _ _; rw [← hW]; exact below_drewN (Below.refl _ wr) 1
      have HS : Hid (MbS W w2.heap.size w.heap.size n2 f) := HM.out.below HWr.out
      have HTW : Hid (Tch (fun k => k = w.heap.size) w2 W) := HT.out.trans (Tch.of_below (S := fun k => k = w.heap.size) HWr.out) (fun k q => .inl q)
      have HSB : Hid (w2.heap.size ≤ W.heap.size) := HTW.out.size
      have hlW : lb < W.heap.size := Nat.lt_of_lt_of_le hlbs HSB.out
      have hown := HS.out.own j hjl
      have hmc := HS.out.cell hjl
      have hmc1 := HS.out.cell1 hjl (o := .cells #[.slice UA un uc] 22)
      rw [HR.out] at hown hmc hmc1
      simp only [Mr.v] at hown hmc hmc1
      rw [hW] at hH ⊢
      clear hW hcl hcE HWr HM HT
      have hH1 : (W.alloc (.cells #[.slice UA un uc] 22)).cell? ⟨lb, lo + k * 1, none⟩ = some (.slice UA un uc) := ((bel_boxT W _).cell (p := ⟨lb, lo + k * 1, none⟩) hlW).trans hH
      refine wpAnyH_take (i := 0) (v := .slice (some ⟨w.heap.size, 0, none⟩) n2 n2) rfl (by kernel_rfl) (by kernel_rfl) (by kernel_rfl) (fun _ _ _ h => h) (.inl ⟨by rfl, fun _ _ => by kernel_rfl⟩) hH ?_
      (try simp only [List.getElem_toArray, List.getElem_cons_zero, Act.put, List.setIfInBounds_toArray, List.set_cons_zero, List.set_cons_succ])
      refine wpAnyH_take (i := 1) (v := .int .i64 ((j : Nat) : Int)) rfl (by kernel_rfl) (by kernel_rfl) (by kernel_rfl) (fun _ _ _ h => h) (.inl ⟨by rfl, fun _ _ => by kernel_rfl⟩) hH ?_
      (try simp only [List.getElem_toArray, List.getElem_cons_zero, List.getElem_cons_succ, Act.put, List.setIfInBounds_toArray, List.set_cons_zero, List.set_cons_succ])
      refine wpAnyH_take (i := 2) (v := .slice (some ⟨w.heap.size, 0, none⟩) n2 n2) rfl (by kernel_rfl) (by kernel_rfl) (by kernel_rfl) (fun _ _ _ h => h) (.inl ⟨by rfl, fun _ _ => by kernel_rfl⟩) hH ?_
      (try simp only [List.getElem_toArray, List.getElem_cons_zero, List.getElem_cons_succ, Act.put, List.setIfInBounds_toArray, List.set_cons_zero, List.set_cons_succ])
      refine wpAnyH_take (i := 3) (v := .int .i64 ((j : Nat) : Int)) rfl (by kernel_rfl) (by kernel_rfl) (by kernel_rfl) (fun _ _ _ h => h) (.inl ⟨by rfl, fun _ _ => by kernel_rfl⟩) hH ?_
      (try simp only [List.getElem_toArray, List.getElem_cons_zero, List.getElem_cons_succ, Act.put, List.setIfInBounds_toArray, List.set_cons_zero, List.set_cons_succ])
      refine wpAnyH_take (i := 4) (v := .pointer (some ⟨w.heap.size, 0 + j * 1, none⟩)) rfl (by kernel_rfl) (by kernel_rfl) (by kernel_rfl) (fun _ _ _ h => h) (yieldsIf_indexT (k := j) Try.underlying35 szVss (by rfl) _ _ rfl rfl rfl hjl) hH ?_
      (try simp only [List.getElem_toArray, List.getElem_cons_zero, List.getElem_cons_succ, Act.put, List.setIfInBounds_toArray, List.set_cons_zero, List.set_cons_succ])
      refine wpAnyH_take (i := 6) (v := .slice (some ⟨lb, lo, none⟩) n c) rfl (by kernel_rfl) (by kernel_rfl) (by kernel_rfl) (fun _ _ _ h => h) (.inl ⟨by rfl, fun _ _ => by kernel_rfl⟩) hH ?_
      (try simp only [List.getElem_toArray, List.getElem_cons_zero, List.getElem_cons_succ, Act.put, List.setIfInBounds_toArray, List.set_cons_zero, List.set_cons_succ])
      refine wpAnyH_take (i := 7) (v := .int .i64 ((k : Nat) : Int)) rfl (by kernel_rfl) (by kernel_rfl) (by kernel_rfl) (fun _ _ _ h => h) (.inl ⟨by rfl, fun _ _ => by kernel_rfl⟩) hH ?_
      (try simp only [List.getElem_toArray, List.getElem_cons_zero, List.getElem_cons_succ, Act.put, List.setIfInBounds_toArray, List.set_cons_zero, List.set_cons_succ])
      refine wpAnyH_take (i := 8) (v := .pointer (some ⟨lb, lo + k * 1, none⟩)) rfl (by kernel_rfl) (by kernel_rfl) (by kernel_rfl) (fun _ _ _ h => h) (yieldsIf_indexT (k := k) Try.underlying34 elemT34 (by rfl) _ _ rfl rfl rfl hlt) hH ?_
      (try simp only [List.getElem_toArray, List.getElem_cons_zero, List.getElem_cons_succ, Act.put, List.setIfInBounds_toArray, List.set_cons_zero, List.set_cons_succ])
      refine wpAnyH_take (i := 9) (v := .slice UA un uc) rfl (by kernel_rfl) (by kernel_rfl) (by kernel_rfl) (fun _ _ _ h => h) (yieldsIf_loadP (by rfl) _ rfl rfl (fun _ q => load_i32s q)) hH ?_
      (try simp only [List.getElem_toArray, List.getElem_cons_zero, List.getElem_cons_succ, Act.put, List.setIfInBounds_toArray, List.set_cons_zero, List.set_cons_succ])
      refine wpAnyH_all (rs := [5, 10]) (by kernel_rfl) (by simp) (fun i hi => ?_)
      rcases (by simpa using hi : i = 5 ∨ i = 10) with rfl | rfl
      · refine wpOp_value (w' := W) (.slice FA fn fc) (by rfl) (by kernel_rfl) (exec_loadT (by rfl) (by rfl) (load_i32ss hmc)) ⟨hH, ?_⟩
        (try simp only [List.getElem_toArray, List.getElem_cons_zero, List.getElem_cons_succ, Act.put, List.setIfInBounds_toArray, List.set_cons_zero, List.set_cons_succ])
        refine wpAnyH_makeT 10 (.slice (some ⟨W.heap.size, 0, none⟩) 1 1) (by kernel_rfl) (by rfl) (by kernel_rfl) (exec_vc (by rfl) (by kernel_rfl) W) hH1 ?_
        (try simp only [List.getElem_toArray, List.getElem_cons_zero, List.getElem_cons_succ, Act.put, List.setIfInBounds_toArray, List.set_cons_zero, List.set_cons_succ])
        refine wpAnyH_push1T 11 (by kernel_rfl) (by rfl) (.tmp 30) (.tmp 35) 34 22 1 24 _ rfl Try.underlying34 info_vs rfl (by decide) W w2.heap.size (.slice FA fn fc) fn (fx.map Vc.v) #[.slice UA un uc] rfl (by kernel_rfl) rfl hown rfl rfl (by simp [Value.oneCell']) (by omega) (by decide) HSB.out ?_
        intro g2 c9 W5 ho hgr hb5 hat5
        have hgr2 : W.grownBy W5 (f j).v.ownBlock := by rw [HR.out]; exact hgr
        have hp5 := HS.out.push hjl (u := ⟨UA, un, uc, ux⟩) (c' := c9) hgr2 (by rw [HR.out]; exact hat5) (by rw [HR.out]; exact ho)
        have SR := HS.out.store5 hjl hgr2 (some ⟨g2, 0, none⟩) (fn + 1) c9
        have hT5 : Tch (fun k => k = w.heap.size) w2 (W5.setCell ⟨w.heap.size, 0 + j * 1, none⟩ (.slice (some ⟨g2, 0, none⟩) (fn + 1) c9)) := (HTW.out.trans (S' := fun k => some k = (Value.slice FA fn fc).ownBlock) ⟨hgr.os, hgr.tape, hgr.output, hgr.size, fun k hk hn => hgr.block k hk hn⟩ (fun k q => .inr (World.ownsRow.lt hown k q.symm).1)).setCell rfl _ _
        have hH5 : W5.cell? ⟨lb, lo + k * 1, none⟩ = some (.slice UA un uc) := by
          have := hgr.block lb hlW (fun q => by have := (World.ownsRow.lt hown lb q.symm).1; omega)
          have h2 := hH
          unfold World.cell? at h2 ⊢
          rw [this]; exact h2
        rw [HR.out] at hp5
        refine ⟨hH5, ?_⟩
        (try simp only [List.getElem_toArray, List.getElem_cons_zero, List.getElem_cons_succ, Act.put, List.setIfInBounds_toArray, List.set_cons_zero, List.set_cons_succ])
        refine wpAnyH_take (i := 12) (v := .pointer (some ⟨w.heap.size, 0 + j * 1, none⟩)) rfl (by kernel_rfl) (by kernel_rfl) (by kernel_rfl) (fun _ _ _ h => h) (yieldsIf_indexT (k := j) Try.underlying35 szVss (by rfl) _ _ rfl rfl rfl hjl) hH5 ?_
        (try simp only [List.getElem_toArray, List.getElem_cons_zero, List.getElem_cons_succ, Act.put, List.setIfInBounds_toArray, List.set_cons_zero, List.set_cons_succ])
        obtain ⟨V, hV⟩ : ∃ V, W5.setCell ⟨w.heap.size, 0 + j * 1, none⟩ (.slice (some ⟨g2, 0, none⟩) (fn + 1) c9) = V := ⟨_, rfl⟩
        have hHV : V.cell? ⟨lb, lo + k * 1, none⟩ = some (.slice UA un uc) := by
          have := Below.heap_setCell W5 ⟨w.heap.size, 0 + j * 1, none⟩ (.slice (some ⟨g2, 0, none⟩) (fn + 1) c9) lb (by show lb ≠ w.heap.size; omega)
          have h2 := hH5
          rw [← hV]
          unfold World.cell? at h2 ⊢
          rw [this]; exact h2
        simp only at hp5
        rw [hV] at SR hp5 hT5
        have HP5 := Lib.hid hp5
        have HT5 := Lib.hid hT5
        clear hV ho hgr hgr2 hb5 hat5 hp5 hT5
        refine wpAnyH_store 13 _ _ _ (by kernel_rfl) (by rfl) (by kernel_rfl) (by rfl) (by rfl) (by rfl) SR hHV ?_
        (try simp only [List.getElem_toArray, List.getElem_cons_zero, List.getElem_cons_succ, Act.put])
        refine wpAnyH_done (by kernel_rfl) ?_ _
        clear SR hHV hH5 hH hH1 hown hmc hmc1
        go_wp2_with fail
        go_roundw
        case rel => exact ⟨k + 1, _, by omega, by go_num, HP5, Lib.hid (HFS.out g2 c9 (fn + 1)), Lib.hid (HNJ.out g2 c9), HT5⟩
        case measure => simp [intOf]; omega
      · refine wpOp_value (w' := W.alloc (.cells #[.slice UA un uc] 22)) (.slice (some ⟨W.heap.size, 0, none⟩) 1 1) (by rfl) (by kernel_rfl) (exec_vc (by rfl) (by kernel_rfl) W) ⟨hH1, ?_⟩
        (try simp only [List.getElem_toArray, List.getElem_cons_zero, List.getElem_cons_succ, Act.put, List.setIfInBounds_toArray, List.set_cons_zero, List.set_cons_succ])
        refine wpAnyH_value 5 (.slice FA fn fc) (by kernel_rfl) (by rfl) (by kernel_rfl) (exec_loadT (by rfl) (by rfl) (load_i32ss hmc1)) hH1 ?_
        (try simp only [List.getElem_toArray, List.getElem_cons_zero, List.getElem_cons_succ, Act.put, List.setIfInBounds_toArray, List.set_cons_zero, List.set_cons_succ])
        refine wpAnyH_push1T 11 (by kernel_rfl) (by rfl) (.tmp 30) (.tmp 35) 34 22 1 24 _ rfl Try.underlying34 info_vs rfl (by decide) W w2.heap.size (.slice FA fn fc) fn (fx.map Vc.v) #[.slice UA un uc] rfl (by kernel_rfl) rfl hown rfl rfl (by simp [Value.oneCell']) (by omega) (by decide) HSB.out ?_
        intro g2 c9 W5 ho hgr hb5 hat5
        have hgr2 : W.grownBy W5 (f j).v.ownBlock := by rw [HR.out]; exact hgr
        have hp5 := HS.out.push hjl (u := ⟨UA, un, uc, ux⟩) (c' := c9) hgr2 (by rw [HR.out]; exact hat5) (by rw [HR.out]; exact ho)
        have SR := HS.out.store5 hjl hgr2 (some ⟨g2, 0, none⟩) (fn + 1) c9
        have hT5 : Tch (fun k => k = w.heap.size) w2 (W5.setCell ⟨w.heap.size, 0 + j * 1, none⟩ (.slice (some ⟨g2, 0, none⟩) (fn + 1) c9)) := (HTW.out.trans (S' := fun k => some k = (Value.slice FA fn fc).ownBlock) ⟨hgr.os, hgr.tape, hgr.output, hgr.size, fun k hk hn => hgr.block k hk hn⟩ (fun k q => .inr (World.ownsRow.lt hown k q.symm).1)).setCell rfl _ _
        have hH5 : W5.cell? ⟨lb, lo + k * 1, none⟩ = some (.slice UA un uc) := by
          have := hgr.block lb hlW (fun q => by have := (World.ownsRow.lt hown lb q.symm).1; omega)
          have h2 := hH
          unfold World.cell? at h2 ⊢
          rw [this]; exact h2
        rw [HR.out] at hp5
        refine ⟨hH5, ?_⟩
        (try simp only [List.getElem_toArray, List.getElem_cons_zero, List.getElem_cons_succ, Act.put, List.setIfInBounds_toArray, List.set_cons_zero, List.set_cons_succ])
        refine wpAnyH_take (i := 12) (v := .pointer (some ⟨w.heap.size, 0 + j * 1, none⟩)) rfl (by kernel_rfl) (by kernel_rfl) (by kernel_rfl) (fun _ _ _ h => h) (yieldsIf_indexT (k := j) Try.underlying35 szVss (by rfl) _ _ rfl rfl rfl hjl) hH5 ?_
        (try simp only [List.getElem_toArray, List.getElem_cons_zero, List.getElem_cons_succ, Act.put, List.setIfInBounds_toArray, List.set_cons_zero, List.set_cons_succ])
        obtain ⟨V, hV⟩ : ∃ V, W5.setCell ⟨w.heap.size, 0 + j * 1, none⟩ (.slice (some ⟨g2, 0, none⟩) (fn + 1) c9) = V := ⟨_, rfl⟩
        have hHV : V.cell? ⟨lb, lo + k * 1, none⟩ = some (.slice UA un uc) := by
          have := Below.heap_setCell W5 ⟨w.heap.size, 0 + j * 1, none⟩ (.slice (some ⟨g2, 0, none⟩) (fn + 1) c9) lb (by show lb ≠ w.heap.size; omega)
          have h2 := hH5
          rw [← hV]
          unfold World.cell? at h2 ⊢
          rw [this]; exact h2
        simp only at hp5
        rw [hV] at SR hp5 hT5
        have HP5 := Lib.hid hp5
        have HT5 := Lib.hid hT5
        clear hV ho hgr hgr2 hb5 hat5 hp5 hT5
        refine wpAnyH_store 13 _ _ _ (by kernel_rfl) (by rfl) (by kernel_rfl) (by rfl) (by rfl) (by rfl) SR hHV ?_
        (try simp only [List.getElem_toArray, List.getElem_cons_zero, List.getElem_cons_succ, Act.put])
        refine wpAnyH_done (by kernel_rfl) ?_ _
        clear SR hHV hH5 hH hH1 hown hmc hmc1
        go_wp2_with fail
        go_roundw
        case rel => exact ⟨k + 1, _, by omega, by go_num, HP5, Lib.hid (HFS.out g2 c9 (fn + 1)), Lib.hid (HNJ.out g2 c9), HT5⟩
        case measure => simp [intOf]; omega
    · obtain rfl : k = n := by omega
      obtain ⟨wo, rfl⟩ : ∃ wo : World, wo = wr := ⟨_, rfl⟩
      have HXA : Hid (∀ i, vxs (f i).xs = memL (vxs l) (vxs l2) i) := fun i => by
        rw [HX.out i, List.take_of_length_le (by rw [HLN.out]; exact Nat.le_refl _), vxs_filter]
      have HIN : Hid (∀ i, ∀ v ∈ (f i).xs, v ∈ l) := fun i v hv => by
        rw [HX.out i] at hv
        exact List.mem_of_mem_take (List.mem_filter.1 hv).1
      have HFL : Hid (∀ i, (f i).n ≤ 30) := fun i => by
        rw [HN.out i, HX.out i]
        exact Nat.le_trans (List.length_filter_le _ _) (by rw [List.length_take]; omega)
      have hst := HT.out.size
      have HBr : Hid (Below w.heap.size w wo) := B12.out.trans (HT.out.below (by omega) (by rintro k rfl; exact Nat.le_refl _))
      have hlM := HM.out.blk.lt
      have hmk2 := HMK2.out
      clear HX HT R2 EB B12 HMK2
      obtain ⟨w3, hw3⟩ : ∃ W, wo.alloc (.cells (madeCells #[.slice none 0 0] n2) 22) = W := ⟨_, rfl⟩
      have B3 : Hid (Below wo.heap.size wo w3) := by show Below _ _ _; rw [← hw3]; exact bel_boxT _ _
      have K3 : Hid (OuS w3 wo.heap.size n2 0 []) := by
        show OuS _ _ _ _ _
        refine ⟨?_, rfl, (fun v hv => by cases hv)⟩
        rw [← hw3, madeL _ rfl]
        exact Blk.new _ _ _
      go_upto_region 8 with fail
      (try rw [hw3])
      clear hmk2 hw3
      obtain ⟨O, hO⟩ : ∃ O, wo.heap.size = O := ⟨_, rfl⟩
      have HOW : Hid (O = wo.heap.size) := hO.symm
      have hMO : w.heap.size < O := by omega
      have hsw : w.heap.size ≤ wo.heap.size := by omega
      rw [hO] at K3 ⊢
      clear hO hst hlM
      go_wp2_with fail
      go_loopw [9, 10, 11, 12, 44] (fun _ _ _ _ s44 wx => ∃ (k : Nat) (lo : List Vc), k ≤ n2 ∧ s44 = .int .i64 k ∧ Hid (OuS wx O n2 k lo) ∧ Hid (lo.map Vc.xs = (List.range k).map (nextC d (vxs l) (vxs l2))) ∧ Hid (Below wo.heap.size wo wx)) (fun _ _ _ _ s44 _ => n2 - (intOf s44).toNat)
      case atStart => exact ⟨0, [], Nat.zero_le _, rfl, K3, Lib.hid rfl, B3⟩
      case round =>
        clear K3 B3
        obtain ⟨k, lo, hk, rfl, HU, HE, HB⟩ := hrel
        by_cases hlt : k < n2
        · have HBW : Hid (Below w.heap.size w wr) := HBr.out.trans (HB.out.mono hsw)
          obtain ⟨vb, vo, v2, rfl, hvb, hu2, hat2, hcv⟩ := (HL2.out.below HBW.out).at_ hlt
          have hok2 := HO2.out v2.xs (List.mem_map.2 ⟨v2, List.mem_of_getElem? hu2, rfl⟩)
          have hlg2 := vxs_lg hu2
          have hn2' : v2.n = d := by rw [← hat2.len]; exact hok2.1
          have hsW := HBW.out.size
          have hV0 := hat2.more hsW
          have HCL : Hid (Calls Try.prog 35 #[v2.v] wr fun e w' => ∃ XA Xc, e = .returned (.slice XA d Xc) ∧ (⟨XA, d, Xc, v2.xs⟩ : Vc).At w' w'.heap.size ∧ (∀ b o, XA = some ⟨b, o, none⟩ → wr.heap.size ≤ b) ∧ Below wr.heap.size wr w') := (vc_clone v2 wr hV0 (by omega) (by omega)).mono fun e w' hx => by
            obtain ⟨⟨xa, xn, xc, xx⟩, h1, h2, h3, h4, h5, h6⟩ := hx
            simp only at h2 h3
            subst h2 h3
            rw [hn2'] at h1 h4
            exact ⟨xa, xc, by rw [h1, ← hn2']; rfl, h4, h5, h6⟩
          have HV2 : Hid (v2.At w w.heap.size) := HL2.out.2 v2 (List.mem_of_getElem? hu2)
          obtain ⟨VA, vn, vc, vx⟩ := v2
          simp only at hn2' hok2 hlg2
          simp only [Vc.v] at HCL hcv
          subst hn2'
          have hOl := HU.out.blk.lt
          have HOK2 := Lib.hid hok2
          clear hok2 hV0 hat2 hu2 hvb
          go_upto_region 11 with fail
          clear hcv
          go_upto_region 12 with (go_at_call 35; (with_reducible refine HCL.out.mono ?_); rintro e wa ⟨XA, Xc, rfl, hxat, hxbl, hba⟩; have HUa := Lib.hid (HU.out.below hba); have BA := Lib.hid hba; have XAT := Lib.hid hxat; have XBL := Lib.hid hxbl; clear hxat hxbl hba; have q1 := HUa.out.cell hlt; have q2 := HUa.out.blk.frozen k)
          clear q1 q2 HCL
          have HXO : Hid (∀ b o, XA = some ⟨b, o, none⟩ → b ≠ O) := fun b o e => by have := XBL.out b o e; omega
          have hOa : O < wa.heap.size := HUa.out.blk.lt
          have HUb := Lib.hid (HUa.out.put (v := ⟨XA, vn, Xc, vx⟩) hlt XAT.out HXO.out)
          have HBa : Hid (Below wo.heap.size wo wa) := HB.out.trans (BA.out.mono HB.out.size)
          have HBb := Lib.hid (HBa.out.setCell (p := ⟨O, k, none⟩) (by show _ ≤ O; have := HOW.out; omega) (.slice XA vn Xc))
          simp only [Vc.v] at HUb
          obtain ⟨wb, hwb⟩ : ∃ x : World, wa.setCell ⟨O, k, none⟩ (.slice XA vn Xc) = x := ⟨_, rfl⟩
          rw [hwb] at HUb HBb ⊢
          clear hwb HUa HU HB BA XAT XBL HXO HBa hOa
          have HMb : Hid (MbS wb w2.heap.size w.heap.size n2 f) := HM.out.below HBb.out
          have hsb := HBb.out.size
          have hmk0 := HMb.out.cell hlt
          have hmk : wb.cell? ⟨w.heap.size, k, none⟩ = some (f k).v := by rw [Nat.zero_add, Nat.mul_one] at hmk0; exact hmk0
          have hown := HMb.out.own k hlt
          have hxk := HXA.out k
          have hfl := HFL.out k
          have HWb : Hid (Below w.heap.size w wb) := HBr.out.trans (HBb.out.mono hsw)
          have hink : ∀ v ∈ (f k).xs, v.At wb wb.heap.size := fun v hv => ((HL.out.2 v (HIN.out k v hv)).below HWb.out).more (by omega)
          have hinl : ∀ v ∈ vxs (f k).xs, OkV vn v := fun v hv => by
            obtain ⟨u, hu, rfl⟩ := List.mem_map.1 hv
            exact HO.out _ (List.mem_map.2 ⟨u, HIN.out k u hu, rfl⟩)
          obtain ⟨r, hr⟩ : ∃ r, f k = r := ⟨_, rfl⟩
          rw [hr] at hmk hown hxk hfl hink hinl
          obtain ⟨FA, fn, fc, fx⟩ := r
          simp only [Mr.v] at hmk hown hxk hfl hink hinl
          have hvcs : Vcs wb wb.heap.size FA fn fx := ⟨Rd.of_own hown, hink⟩
          have hfn : (vxs fx).length = fn := by rw [vxs_len, hvcs.len]
          have HNX : Hid (nextC vn (vxs l) (vxs l2) k = if fn ≠ 0 ∧ farL (vxs fx) (meanL (vxs fx) vn) < farL (vxs fx) vx then meanL (vxs fx) vn else vx) := by
            show _ = _
            unfold nextC
            rw [← hxk, hlg2, hfn]
          have HREL : Hid (∀ x : Vc, x.xs = nextC vn (vxs l) (vxs l2) k → (lo ++ [x]).map Vc.xs = (List.range (k + 1)).map (nextC vn (vxs l) (vxs l2))) := fun x hx => by
            rw [List.range_succ, List.map_append, List.map_append, HE.out]
            simp [hx]
          have HVC := Lib.hid hvcs
          have HINL := Lib.hid hinl
          have HMK := Lib.hid hmk
          have HOb : Hid (O < wb.heap.size) := HUb.out.blk.lt
          have hwbs : w.heap.size < wb.heap.size := Nat.lt_trans hMO HOb.out
          clear hmk0 hown hxk hink hinl hvcs hlg2 hr hfn HE
          by_cases hf0 : fn = 0
          · subst hf0
            rw [if_neg (by simp)] at HNX
            have HME := Lib.hid (mean_none FA fc wb)
            go_upto_region 13 with (go_at_call 36; (with_reducible refine HME.out.mono ?_); rintro e w' ⟨rfl, rfl⟩)
            clear hmk HME
            refine wp_region_held_drew (S := fun _ => True) (by kernel_rfl) trivial (fun hH => ?_)
            obtain ⟨W, hW⟩ : ∃ q, wb.drew = q := ⟨_, rfl⟩
            have HWr : Hid (Below wb.heap.size wb W) := by show Below _ _ _; rw [← hW]; exact below_drewN (Below.refl _ wb) 1
            have HU5 := Lib.hid (HUb.out.below HWr.out)
            have HB5 : Hid (Below wo.heap.size wo W) := HBb.out.trans (HWr.out.mono hsb)
            rw [hW] at ⊢
            clear hW HUb HBb HWr
            refine wpAnyH_take (i := 0) (v := .int .i64 7) rfl (by kernel_rfl) (by kernel_rfl) (by kernel_rfl) (fun _ _ _ h => h) (.inl ⟨by rfl, fun _ _ => by kernel_rfl⟩) trivial ?_
            (try simp only [List.getElem_toArray, List.getElem_cons_zero, Act.put, List.setIfInBounds_toArray, List.set_cons_zero, List.set_cons_succ])
            refine wpAnyH_take (i := 1) (v := .bool false) rfl (by kernel_rfl) (by kernel_rfl) (by kernel_rfl) (fun _ _ _ h => h) (.inl ⟨by rfl, fun _ _ => by kernel_rfl⟩) trivial ?_
            (try simp only [List.getElem_toArray, List.getElem_cons_zero, List.getElem_cons_succ, Act.put, List.setIfInBounds_toArray, List.set_cons_zero, List.set_cons_succ])
            refine wpAnyH_take (i := 2) (v := .bool false) rfl (by kernel_rfl) (by kernel_rfl) (by kernel_rfl) (fun _ _ _ h => h) (.inl ⟨by rfl, fun _ _ => by kernel_rfl⟩) trivial ?_
            (try simp only [List.getElem_toArray, List.getElem_cons_zero, List.getElem_cons_succ, Act.put, List.setIfInBounds_toArray, List.set_cons_zero, List.set_cons_succ])
            refine wpAnyH_take (i := 3) (v := undef) rfl (by kernel_rfl) (by kernel_rfl) (by kernel_rfl) (fun _ _ _ h => h) (.inr ⟨by rfl, rfl⟩) trivial ?_
            (try simp only [List.getElem_toArray, List.getElem_cons_zero, List.getElem_cons_succ, Act.put, List.setIfInBounds_toArray, List.set_cons_zero, List.set_cons_succ])
            refine wpAnyH_take (i := 4) (v := undef) rfl (by kernel_rfl) (by kernel_rfl) (by kernel_rfl) (fun _ _ _ h => h) (.inr ⟨by rfl, rfl⟩) trivial ?_
            (try simp only [List.getElem_toArray, List.getElem_cons_zero, List.getElem_cons_succ, Act.put, List.setIfInBounds_toArray, List.set_cons_zero, List.set_cons_succ])
            refine wpAnyH_take (i := 5) (v := undef) rfl (by kernel_rfl) (by kernel_rfl) (by kernel_rfl) (fun _ _ _ h => h) (.inr ⟨by rfl, rfl⟩) trivial ?_
            (try simp only [List.getElem_toArray, List.getElem_cons_zero, List.getElem_cons_succ, Act.put, List.setIfInBounds_toArray, List.set_cons_zero, List.set_cons_succ])
            refine wpAnyH_take (i := 6) (v := undef) rfl (by kernel_rfl) (by kernel_rfl) (by kernel_rfl) (fun _ _ _ h => h) (.inr ⟨by rfl, rfl⟩) trivial ?_
            (try simp only [List.getElem_toArray, List.getElem_cons_zero, List.getElem_cons_succ, Act.put, List.setIfInBounds_toArray, List.set_cons_zero, List.set_cons_succ])
            refine wpAnyH_take (i := 7) (v := undef) rfl (by kernel_rfl) (by kernel_rfl) (by kernel_rfl) (fun _ _ _ h => h) (.inr ⟨by rfl, rfl⟩) trivial ?_
            (try simp only [List.getElem_toArray, List.getElem_cons_zero, List.getElem_cons_succ, Act.put, List.setIfInBounds_toArray, List.set_cons_zero, List.set_cons_succ])
            refine wpAnyH_take (i := 8) (v := undef) rfl (by kernel_rfl) (by kernel_rfl) (by kernel_rfl) (fun _ _ _ h => h) (.inr ⟨by rfl, rfl⟩) trivial ?_
            (try simp only [List.getElem_toArray, List.getElem_cons_zero, List.getElem_cons_succ, Act.put, List.setIfInBounds_toArray, List.set_cons_zero, List.set_cons_succ])
            refine wpAnyH_take (i := 9) (v := undef) rfl (by kernel_rfl) (by kernel_rfl) (by kernel_rfl) (fun _ _ _ h => h) (.inr ⟨by rfl, rfl⟩) trivial ?_
            (try simp only [List.getElem_toArray, List.getElem_cons_zero, List.getElem_cons_succ, Act.put, List.setIfInBounds_toArray, List.set_cons_zero, List.set_cons_succ])
            refine wpAnyH_take (i := 10) (v := undef) rfl (by kernel_rfl) (by kernel_rfl) (by kernel_rfl) (fun _ _ _ h => h) (.inr ⟨by rfl, rfl⟩) trivial ?_
            (try simp only [List.getElem_toArray, List.getElem_cons_zero, List.getElem_cons_succ, Act.put, List.setIfInBounds_toArray, List.set_cons_zero, List.set_cons_succ])
            refine wpAnyH_take (i := 11) (v := undef) rfl (by kernel_rfl) (by kernel_rfl) (by kernel_rfl) (fun _ _ _ h => h) (.inr ⟨by rfl, rfl⟩) trivial ?_
            (try simp only [List.getElem_toArray, List.getElem_cons_zero, List.getElem_cons_succ, Act.put, List.setIfInBounds_toArray, List.set_cons_zero, List.set_cons_succ])
            refine wpAnyH_take (i := 12) (v := undef) rfl (by kernel_rfl) (by kernel_rfl) (by kernel_rfl) (fun _ _ _ h => h) (.inr ⟨by rfl, rfl⟩) trivial ?_
            (try simp only [List.getElem_toArray, List.getElem_cons_zero, List.getElem_cons_succ, Act.put, List.setIfInBounds_toArray, List.set_cons_zero, List.set_cons_succ])
            refine wpAnyH_take (i := 13) (v := undef) rfl (by kernel_rfl) (by kernel_rfl) (by kernel_rfl) (fun _ _ _ h => h) (.inr ⟨by rfl, rfl⟩) trivial ?_
            (try simp only [List.getElem_toArray, List.getElem_cons_zero, List.getElem_cons_succ, Act.put, List.setIfInBounds_toArray, List.set_cons_zero, List.set_cons_succ])
            refine wpAnyH_take (i := 14) (v := undef) rfl (by kernel_rfl) (by kernel_rfl) (by kernel_rfl) (fun _ _ _ h => h) (.inr ⟨by rfl, rfl⟩) trivial ?_
            (try simp only [List.getElem_toArray, List.getElem_cons_zero, List.getElem_cons_succ, Act.put, List.setIfInBounds_toArray, List.set_cons_zero, List.set_cons_succ])
            refine wpAnyH_take (i := 15) (v := undef) rfl (by kernel_rfl) (by kernel_rfl) (by kernel_rfl) (fun _ _ _ h => h) (.inr ⟨by rfl, rfl⟩) trivial ?_
            (try simp only [List.getElem_toArray, List.getElem_cons_zero, List.getElem_cons_succ, Act.put, List.setIfInBounds_toArray, List.set_cons_zero, List.set_cons_succ])
            refine wpAnyH_take (i := 16) (v := .bool false) rfl (by kernel_rfl) (by kernel_rfl) (by kernel_rfl) (fun _ _ _ h => h) (.inl ⟨by rfl, fun _ _ => by kernel_rfl⟩) trivial ?_
            (try simp only [List.getElem_toArray, List.getElem_cons_zero, List.getElem_cons_succ, Act.put, List.setIfInBounds_toArray, List.set_cons_zero, List.set_cons_succ])
            refine wpAnyH_done (by kernel_rfl) ?_ _
            clear hH
            go_wp2_with fail
            go_roundw
            case rel => exact ⟨k + 1, _, by omega, by go_num, HU5, Lib.hid (HREL.out _ HNX.out.symm), HB5⟩
            case measure => simp [intOf]; omega
          · have HME : Hid (Calls Try.prog 36 #[.slice FA fn fc] wb fun e w' => ∃ YA Yc, e = .returned (.tuple #[.slice YA vn Yc, .int .i64 0]) ∧ (⟨YA, vn, Yc, meanL (vxs fx) vn⟩ : Vc).At w' w'.heap.size ∧ (∀ b o, YA = some ⟨b, o, none⟩ → wb.heap.size ≤ b) ∧ Below wb.heap.size wb w') := (mean_some FA fn fc vn fx wb HVC.out hfl (by omega) hd1 hd2 HINL.out).mono fun e w' hx => by
              obtain ⟨⟨xa, xn, xc, xx⟩, h1, h2, h3, h4, h5, h6⟩ := hx
              simp only at h2 h3
              subst h2 h3
              exact ⟨xa, xc, h1, h4, h5, h6⟩
            go_upto_region 13 with (go_at_call 36; (with_reducible refine HME.out.mono ?_); rintro e wc ⟨YA, Yc, rfl, hyat, hybl, hbc⟩; have BC := Lib.hid hbc; have YAT := Lib.hid hyat; have YBL := Lib.hid hybl; clear hyat hybl hbc)
            clear hmk HME
            have hsc := BC.out.size
            obtain ⟨lt, hlt2⟩ : ∃ lt : Bool, decide (((farL (vxs fx) (meanL (vxs fx) vn) : Nat) : Int) < ((farL (vxs fx) vx : Nat) : Int)) = lt := ⟨_, rfl⟩
            have HNL : Hid (nextC vn (vxs l) (vxs l2) k = if lt = true then meanL (vxs fx) vn else vx) := by
              show _ = _
              rw [HNX.out, ← hlt2]
              simp only [decide_eq_true_eq, Int.ofNat_lt]
              congr 1
              simp [hf0]
            have F1 := Lib.hid (fun (W : World) (hb : Below wc.heap.size wc W) => cl_far FA fn fc fx ⟨YA, vn, Yc, meanL (vxs fx) vn⟩ W (HVC.out.on (Nat.le_refl _) (BC.out.trans (hb.mono hsc))) hfl (YAT.out.on (Nat.le_refl _) hb))
            have F2 := Lib.hid (fun (W : World) (hb : Below wc.heap.size wc W) => cl_far FA fn fc fx ⟨VA, vn, vc, vx⟩ W (HVC.out.on (Nat.le_refl _) (BC.out.trans (hb.mono hsc))) hfl (HV2.out.on (Nat.le_refl _) ((HWb.out.trans (BC.out.mono (by omega))).trans (hb.mono (by omega)))))
            have HCW : Hid (∀ W : World, Below wc.heap.size wc W → W.cell? ⟨w.heap.size, 0 + k * 1, none⟩ = some (.slice FA fn fc)) := fun W hb => by
              rw [Nat.zero_add, Nat.mul_one]
              exact (hb.cell (p := ⟨w.heap.size, k, none⟩) (by show w.heap.size < _; omega)).trans ((BC.out.cell (p := ⟨w.heap.size, k, none⟩) hwbs).trans HMK.out)
            refine wp_region_held_drew (S := fun W => Below wc.heap.size wc W) (by kernel_rfl) (below_drewN (Below.refl _ wc) 1) (fun hH => ?_)
            obtain ⟨W0, hW⟩ : ∃ q, wc.drew = q := ⟨_, rfl⟩
            rw [hW] at hH ⊢
            clear hW
            refine wpAnyH_take (i := 0) (v := .int .i64 0) rfl (by kernel_rfl) (by kernel_rfl) (by kernel_rfl) (fun _ _ _ h => h) (.inl ⟨by rfl, fun _ _ => by kernel_rfl⟩) hH ?_
            (try simp only [List.getElem_toArray, List.getElem_cons_zero, Act.put, List.setIfInBounds_toArray, List.set_cons_zero, List.set_cons_succ])
            refine wpAnyH_take (i := 1) (v := .bool true) rfl (by kernel_rfl) (by kernel_rfl) (by kernel_rfl) (fun _ _ _ h => h) (.inl ⟨by rfl, fun _ _ => by kernel_rfl⟩) hH ?_
            (try simp only [List.getElem_toArray, List.getElem_cons_zero, List.getElem_cons_succ, Act.put, List.setIfInBounds_toArray, List.set_cons_zero, List.set_cons_succ])
            refine wpAnyH_take (i := 2) (v := .bool true) rfl (by kernel_rfl) (by kernel_rfl) (by kernel_rfl) (fun _ _ _ h => h) (.inl ⟨by rfl, fun _ _ => by kernel_rfl⟩) hH ?_
            (try simp only [List.getElem_toArray, List.getElem_cons_zero, List.getElem_cons_succ, Act.put, List.setIfInBounds_toArray, List.set_cons_zero, List.set_cons_succ])
            refine wpAnyH_take (i := 3) (v := .slice (some ⟨w.heap.size, 0, none⟩) n2 n2) rfl (by kernel_rfl) (by kernel_rfl) (by kernel_rfl) (fun _ _ _ h => h) (.inl ⟨by rfl, fun _ _ => by kernel_rfl⟩) hH ?_
            (try simp only [List.getElem_toArray, List.getElem_cons_zero, List.getElem_cons_succ, Act.put, List.setIfInBounds_toArray, List.set_cons_zero, List.set_cons_succ])
            refine wpAnyH_take (i := 4) (v := .int .i64 ((k : Nat) : Int)) rfl (by kernel_rfl) (by kernel_rfl) (by kernel_rfl) (fun _ _ _ h => h) (.inl ⟨by rfl, fun _ _ => by kernel_rfl⟩) hH ?_
            (try simp only [List.getElem_toArray, List.getElem_cons_zero, List.getElem_cons_succ, Act.put, List.setIfInBounds_toArray, List.set_cons_zero, List.set_cons_succ])
            refine wpAnyH_take (i := 5) (v := .pointer (some ⟨w.heap.size, 0 + k * 1, none⟩)) rfl (by kernel_rfl) (by kernel_rfl) (by kernel_rfl) (fun _ _ _ h => h) (yieldsIf_indexT (k := k) Try.underlying35 szVss (by rfl) _ _ rfl rfl rfl hlt) hH ?_
            (try simp only [List.getElem_toArray, List.getElem_cons_zero, List.getElem_cons_succ, Act.put, List.setIfInBounds_toArray, List.set_cons_zero, List.set_cons_succ])
            refine wpAnyH_take (i := 6) (v := .slice FA fn fc) rfl (by kernel_rfl) (by kernel_rfl) (by kernel_rfl) (fun _ _ _ h => h) (yieldsIf_loadP (by rfl) _ rfl rfl (fun _ q => load_i32ss (HCW.out _ q))) hH ?_
            (try simp only [List.getElem_toArray, List.getElem_cons_zero, List.getElem_cons_succ, Act.put, List.setIfInBounds_toArray, List.set_cons_zero, List.set_cons_succ])
            refine wpAnyH_take (i := 7) (v := .slice YA vn Yc) rfl (by kernel_rfl) (by kernel_rfl) (by kernel_rfl) (fun _ _ _ h => h) (.inl ⟨by rfl, fun _ _ => by kernel_rfl⟩) hH ?_
            (try simp only [List.getElem_toArray, List.getElem_cons_zero, List.getElem_cons_succ, Act.put, List.setIfInBounds_toArray, List.set_cons_zero, List.set_cons_succ])
            refine wpAnyH_take (i := 9) (v := .slice (some ⟨w.heap.size, 0, none⟩) n2 n2) rfl (by kernel_rfl) (by kernel_rfl) (by kernel_rfl) (fun _ _ _ h => h) (.inl ⟨by rfl, fun _ _ => by kernel_rfl⟩) hH ?_
            (try simp only [List.getElem_toArray, List.getElem_cons_zero, List.getElem_cons_succ, Act.put, List.setIfInBounds_toArray, List.set_cons_zero, List.set_cons_succ])
            refine wpAnyH_take (i := 10) (v := .int .i64 ((k : Nat) : Int)) rfl (by kernel_rfl) (by kernel_rfl) (by kernel_rfl) (fun _ _ _ h => h) (.inl ⟨by rfl, fun _ _ => by kernel_rfl⟩) hH ?_
            (try simp only [List.getElem_toArray, List.getElem_cons_zero, List.getElem_cons_succ, Act.put, List.setIfInBounds_toArray, List.set_cons_zero, List.set_cons_succ])
            refine wpAnyH_take (i := 11) (v := .pointer (some ⟨w.heap.size, 0 + k * 1, none⟩)) rfl (by kernel_rfl) (by kernel_rfl) (by kernel_rfl) (fun _ _ _ h => h) (yieldsIf_indexT (k := k) Try.underlying35 szVss (by rfl) _ _ rfl rfl rfl hlt) hH ?_
            (try simp only [List.getElem_toArray, List.getElem_cons_zero, List.getElem_cons_succ, Act.put, List.setIfInBounds_toArray, List.set_cons_zero, List.set_cons_succ])
            refine wpAnyH_take (i := 12) (v := .slice FA fn fc) rfl (by kernel_rfl) (by kernel_rfl) (by kernel_rfl) (fun _ _ _ h => h) (yieldsIf_loadP (by rfl) _ rfl rfl (fun _ q => load_i32ss (HCW.out _ q))) hH ?_
            (try simp only [List.getElem_toArray, List.getElem_cons_zero, List.getElem_cons_succ, Act.put, List.setIfInBounds_toArray, List.set_cons_zero, List.set_cons_succ])
            refine wpAnyH_take (i := 13) (v := .slice VA vn vc) rfl (by kernel_rfl) (by kernel_rfl) (by kernel_rfl) (fun _ _ _ h => h) (.inl ⟨by rfl, fun _ _ => by kernel_rfl⟩) hH ?_
            (try simp only [List.getElem_toArray, List.getElem_cons_zero, List.getElem_cons_succ, Act.put, List.setIfInBounds_toArray, List.set_cons_zero, List.set_cons_succ])
            refine wpAnyH_call 8 37 #[.slice FA fn fc, .slice YA vn Yc] _ (by kernel_rfl) (by rfl) (by kernel_rfl) (by kernel_rfl) (F1.out W0 hH) ?_
            rintro e W1 ⟨rfl, hb1⟩
            have hH1 : Below wc.heap.size wc W1 := hH.trans (hb1.mono hH.size)
            refine ⟨_, rfl, hH1, ?_⟩
            (try simp only [List.getElem_toArray, List.getElem_cons_zero, List.getElem_cons_succ, Act.put, List.setIfInBounds_toArray, List.set_cons_zero, List.set_cons_succ])
            refine wpAnyH_call 14 37 #[.slice FA fn fc, .slice VA vn vc] _ (by kernel_rfl) (by rfl) (by kernel_rfl) (by kernel_rfl) (F2.out W1 hH1) ?_
            rintro e W2 ⟨rfl, hb2⟩
            have hb2' : Below wc.heap.size wc W2 := hH1.trans (hb2.mono hH1.size)
            refine ⟨_, rfl, hb2', ?_⟩
            (try simp only [List.getElem_toArray, List.getElem_cons_zero, List.getElem_cons_succ, Act.put, List.setIfInBounds_toArray, List.set_cons_zero, List.set_cons_succ])
            refine wpAnyH_take (i := 15) (v := .bool lt) rfl (by kernel_rfl) (by kernel_rfl) (by kernel_rfl) (fun _ _ _ h => h) (yieldsIf_lssT (by rfl) _ _ rfl rfl rfl hlt2) hb2' ?_
            (try simp only [List.getElem_toArray, List.getElem_cons_zero, List.getElem_cons_succ, Act.put, List.setIfInBounds_toArray, List.set_cons_zero, List.set_cons_succ])
            refine wpAnyH_take (i := 16) (v := .bool lt) rfl (by kernel_rfl) (by kernel_rfl) (by kernel_rfl) (fun _ _ _ h => h) (.inl ⟨by rfl, fun _ _ => by kernel_rfl⟩) hb2' ?_
            (try simp only [List.getElem_toArray, List.getElem_cons_zero, List.getElem_cons_succ, Act.put, List.setIfInBounds_toArray, List.set_cons_zero, List.set_cons_succ])
            refine wpAnyH_done (by kernel_rfl) ?_ _
            have HB2' := Lib.hid hb2'
            have hWc := hb2'.size
            clear hH hb1 hb2 hb2'
            have HU5 : Hid (OuS W2 O n2 (k + 1) (lo ++ [⟨XA, vn, Xc, vx⟩])) := HUb.out.below (BC.out.trans (HB2'.out.mono hsc))
            have HB5 : Hid (Below wo.heap.size wo W2) := HBb.out.trans ((BC.out.trans (HB2'.out.mono hsc)).mono hsb)
            have HY5 : Hid ((⟨YA, vn, Yc, meanL (vxs fx) vn⟩ : Vc).At W2 W2.heap.size) := YAT.out.on (Nat.le_refl _) HB2'.out
            have HYO : Hid (∀ b o, YA = some ⟨b, o, none⟩ → b ≠ O) := fun b o e => by
              have h1 := YBL.out b o e
              have h2 := HOb.out
              omega
            clear HUb HBb YAT YBL F1 F2 HCW HB2' HMK HVC HINL HMb HWb BC
            cases lt with
            | false =>
              rw [if_neg (by decide)] at HNL
              go_wp2_with fail
              go_roundw
              case rel => exact ⟨k + 1, _, by omega, by go_num, HU5, Lib.hid (HREL.out _ HNL.out.symm), HB5⟩
              case measure => simp [intOf]; omega
            | true =>
              rw [if_pos rfl] at HNL
              have q1 := HU5.out.cell2
              have q2 := HU5.out.blk.frozen k
              simp only [Vc.v] at q1
              have HU6 := Lib.hid (HU5.out.again HY5.out HYO.out)
              have HB6 := Lib.hid (HB5.out.setCell (p := ⟨O, k, none⟩) (by show _ ≤ O; have := HOW.out; omega) (.slice YA vn Yc))
              go_wp2_with fail
              clear q1 q2
              go_roundw
              case rel => exact ⟨k + 1, _, by omega, by go_num, HU6, Lib.hid (HREL.out _ HNL.out.symm), HB6⟩
              case measure => simp [intOf]; omega
        · obtain rfl : k = n2 := by omega
          have HFin : Hid (RetS d (vxs l) (vxs l2) k w (.returned (.slice (some ⟨O, 0, none⟩) k k)) wr) := by
            refine ⟨O, lo, rfl, HU.out.vcs, ?_, HBr.out.trans (HB.out.mono hsw)⟩
            unfold vxs stepL
            rw [HE.out]
            have := HVN2.out
            unfold vxs at this
            rw [this]; rfl
          clear HU HE HB
          go_wp2
          go_ret
          exact HFin.out
end Go.Proofs.Ytlmgfbhgamchgaa
