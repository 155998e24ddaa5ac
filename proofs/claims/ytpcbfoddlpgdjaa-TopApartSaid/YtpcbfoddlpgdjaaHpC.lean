/- Best and Queue: their methods. Printed by genHpC.py out of HpC.frame. -/
import Derived.Test.YtpcbfoddlpgdjaaHpUB
import Derived.Test.YtpcbfoddlpgdjaaHpLP
import Derived.Test.YtpcbfoddlpgdjaaRkT
namespace Go.Proofs.Ytpcbfoddlpgdjaa
open Go.RowKit
theorem ah_spot : AhF 21 ahB := ⟨enters_of Try.func21 (by kernel_rfl) rfl, fun a b w => rank_spot a b w⟩
set_option maxRecDepth 100000 in
theorem hp_behind (a b : Sp) (w : World) : Calls Try.prog 26 #[spV a, spV b] w fun e w' => e = .returned (.bool (ahB b a)) ∧ Gw w w' := by
  obtain ⟨w1, hw1⟩ : ∃ x, w.alloc (.cells #[.int .u64 a.d, .int .u64 a.id, .int .i64 a.s] 35) = x := ⟨_, rfl⟩
  obtain ⟨w2, hw2⟩ : ∃ x, w1.alloc (.cells #[.int .u64 b.d, .int .u64 b.id, .int .i64 b.s] 35) = x := ⟨_, rfl⟩
  have b2 : Below w1.heap.size w1 w2 := by rw [← hw2]; exact (Below.refl _ w1).alloc (Nat.le_refl _) _
  have e1 : w1.heap.size = w.heap.size + 1 := by rw [← hw1]; simp only [World.alloc, Array.size_push]
  have k1 : Blk w1 w.heap.size 35 #[.int .u64 a.d, .int .u64 a.id, .int .i64 a.s] := by rw [← hw1]; exact Blk.new _ _ _
  have k2 : Blk w2 (w.heap.size + 1) 35 #[.int .u64 b.d, .int .u64 b.id, .int .i64 b.s] := by rw [← hw2, ← e1]; exact Blk.new _ _ _
  have LA := sp_load (x := a) (k1.below b2 k1.lt)
  have LB := sp_load (x := b) k2
  have HG : Hid (Gw w w2) := by show Gw _ _; rw [← hw2, ← hw1]; exact Gw.alloc (Gw.alloc (Gw.refl w) _) _
  have HP := Lib.hid (rank_spot b a w2)
  have HE := Lib.hid e1
  clear b2 k1 k2
  unfold spV at HP LA LB ⊢
  go_enter Try.func26, Try.ntmps26
  go_upto_region 1 with fail
  (try simp only [hw1])
  (try rw [HE.out])
  (try rw [hw2])
  clear hw1 hw2 e1
  go_wp2_with (first | refine wpList_loadE LA _ rfl rfl rfl ?_ | refine wpList_loadE LB _ rfl rfl rfl ?_ | (go_at_call 21; (with_reducible refine HP.out.mono ?_); rintro e V ⟨rfl, g1⟩; have H1 := Lib.hid g1; clear g1 LA LB))
  go_ret
  exact ⟨rfl, HG.out.trans H1.out⟩
theorem ah_behind : AhF 26 (fun a b => ahB b a) := ⟨enters_of Try.func26 (by kernel_rfl) rfl, fun a b w => hp_behind a b w⟩
theorem HpAt.cell0 {w : World} {h : HR} (H : HpAt w h) : w.cell? ⟨h.hb, 0, none⟩ = some (.slice h.A h.L.length h.c) := (H.blk.cell 0).trans rfl
theorem spz_store (w : World) : Blk (w.alloc (.cells spZ0 35)) w.heap.size 35 spZ0 := Blk.new _ _ _
set_option maxRecDepth 100000 in
set_option maxHeartbeats 4000000 in
theorem hp_first (h : HR) (w : World) (H : HpAt w h) : Calls Try.prog 45 #[.pointer (some ⟨h.hb, 0, none⟩)] w (fun e w' => e = .returned (.tuple #[spV (sg h.L 0), .bool (decide (0 < h.L.length))]) ∧ Below w.heap.size w w') := by
  obtain ⟨w1, hw1⟩ : ∃ x, w.alloc (.cells spZ0 35) = x := ⟨_, rfl⟩
  have b1 : Below w.heap.size w w1 := by rw [← hw1]; exact bel_box _ _
  have k1 : Blk w1 w.heap.size 35 spZ0 := by rw [← hw1]; exact Blk.new _ _ _
  have H1 : HpAt w1 h := H.tch (Tch.of_below (S := fun _ => False) b1) (fun _ _ q => q)
  have c0 := H1.cell0
  obtain ⟨n, hn⟩ : ∃ n, h.L.length = n := ⟨_, rfl⟩
  rw [hn] at c0 ⊢
  have HB1 := Lib.hid b1
  have HK1 := Lib.hid k1
  have HLN := Lib.hid hn
  unfold spZ0 at hw1
  by_cases h0 : n = 0
  · have hL : h.L = [] := List.eq_nil_of_length_eq_zero (by rw [hn, h0])
    have es : spV (sg h.L 0) = .agg #[.int .u64 0, .int .u64 0, .int .i64 0] := by rw [hL]; rfl
    rw [es]
    subst h0
    have SR := row_store (P := Try.prog) k1 (spC ⟨0, 0, 0⟩) rfl spotTK (by simp [spC, Value.oneCell'])
    obtain ⟨V, hV⟩ : ∃ V, w1.setCells w.heap.size 0 (spC ⟨0, 0, 0⟩).toList = V := ⟨_, rfl⟩
    rw [hV] at SR
    have HV : Hid (Blk V w.heap.size 35 (spC ⟨0, 0, 0⟩)) := by show Blk _ _ _ _; rw [← hV]; exact k1.put _ rfl
    have HBV : Hid (Below w.heap.size w V) := by
      show Below _ _ _
      rw [← hV]
      exact b1.trans ((Tch.setCells (S := fun k => k = w.heap.size) rfl _ _ w1 (Tch.refl _ w1)).below b1.size (fun k hk => Nat.le_of_eq hk.symm))
    unfold spC at SR
    clear H H1 b1 k1 hL es hV hn
    go_enter Try.func45, Try.ntmps45
    go_upto_region 1 with fail
    (try rw [hw1])
    clear hw1
    go_wp2_with (refine wpList_storeE SR _ _ rfl rfl rfl rfl ?_)
    refine bodyPost_ret (v := .tuple #[.agg #[.int .u64 0, .int .u64 0, .int .i64 0], .bool false]) ?_ rfl ⟨rfl, HBV.out⟩
    exact results_row11K (P := Try.prog) Try.results45 _ rfl HV.out Try.underlying35 rfl spotTK
  · obtain ⟨g, hA, hg, hne, hS, hnc, hc⟩ : ∃ g, h.A = some ⟨g, 0, none⟩ ∧ g < w1.heap.size ∧ h.hb ≠ g ∧ HeldS w1 g h.c h.L ∧ h.L.length ≤ h.c ∧ h.c ≤ maxLen := by
      rcases H1.row with ⟨_, q, _⟩ | q
      · rw [q] at hn; exact absurd hn.symm h0
      · exact q
    rw [hA] at c0
    have LX := hS.load (k := 0) (by omega)
    have hpos : decide (0 < n) = true := decide_eq_true (by omega)
    have tz : decide (n = 0) = false := decide_eq_false h0
    rw [hpos]
    obtain ⟨x, hx⟩ : ∃ x, sg h.L 0 = x := ⟨_, rfl⟩
    rw [hx] at LX ⊢
    have SR := row_store (P := Try.prog) k1 (spC x) rfl spotTK (by simp [spC, Value.oneCell'])
    obtain ⟨V, hV⟩ : ∃ V, w1.setCells w.heap.size 0 (spC x).toList = V := ⟨_, rfl⟩
    rw [hV] at SR
    have HV : Hid (Blk V w.heap.size 35 (spC x)) := by show Blk _ _ _ _; rw [← hV]; exact k1.put _ rfl
    have HBV : Hid (Below w.heap.size w V) := by
      show Below _ _ _
      rw [← hV]
      exact b1.trans ((Tch.setCells (S := fun k => k = w.heap.size) rfl _ _ w1 (Tch.refl _ w1)).below b1.size (fun k hk => Nat.le_of_eq hk.symm))
    have SR' : (Instr.storeAt 35 (.pointer (some ⟨w.heap.size, 0, none⟩)) (spV x)).run Try.prog w1 = .ok () V := SR
    have LX' : (Instr.loadAt 35 (.pointer (some ⟨g, 0, none⟩))).run Try.prog w1 = .ok (spV x) w1 := LX
    have hp : (0 : Int) < (n : Int) := by omega
    have hp2 : 0 < n := by omega
    clear H H1 b1 k1 hV SR hn hA hg hne hS hnc hc hpos hx h0 LX
    go_enter Try.func45, Try.ntmps45
    go_upto_region 1 with fail
    (try rw [hw1])
    clear hw1
    go_wp2_with (first | refine wpList_loadE LX' _ rfl rfl rfl ?_ | refine wpList_storeE SR' _ _ rfl rfl rfl rfl ?_)
    refine bodyPost_ret (v := .tuple #[spV x, .bool true]) ?_ rfl ⟨rfl, HBV.out⟩
    exact results_row11K (P := Try.prog) Try.results45 _ rfl HV.out Try.underlying35 rfl spotTK
theorem yieldsIf_geqC {P : Program} {ops : Array Oper} {S : World → Prop} {o : Oper} {a : Act} {t t' : TypeId} {k : IntKind} {m n : Int} {r : Bool} (hr : decide (m ≥ n) = r) (hw : Region.wanted o (yielded ops a.tmps) = true) (x y : Operand) (ho : o.op = .binOp .geq t x y t') (hx : a.eval x = .int k m) (hy : a.eval y = .int k n) : YieldsIf P ops S o (.bool r) a := by
  refine .inl ⟨hw, fun w _ => ?_⟩
  unfold execOp
  simp only [ho, hx, hy]
  simp [go_sem, ← hr]
theorem load_i64H {w : World} {b o : Nat} {z : Int} (h : w.cell? ⟨b, o, none⟩ = some (.int .i64 z)) : (Instr.loadAt 3 (.pointer (some ⟨b, o, none⟩))).run Try.prog w = .ok (.int .i64 z) w := by
  simp [go_sem, h]
theorem HpAt.cell2 {w : World} {h : HR} (H : HpAt w h) {u : Value} (hr : h.rest = [u]) : w.cell? ⟨h.hb, 2, none⟩ = some u := (H.blk.cell 2).trans (by unfold HR.C; rw [hr]; rfl)
set_option maxRecDepth 100000 in
set_option maxHeartbeats 4000000 in
theorem b_fullE (m : Nat) (h : HR) (w : World) (H : HpAt w h) (hr : h.rest = [.int .i64 ((m : Nat) : Int)]) : Calls Try.prog 27 #[.pointer (some ⟨h.hb, 0, none⟩)] w (fun e w' => e = .returned (.bool (decide (m ≤ h.L.length))) ∧ Below w.heap.size w w') := by
  have HH := Lib.hid H
  have HR0 := Lib.hid hr
  obtain ⟨n, hn⟩ : ∃ n, h.L.length = n := ⟨_, rfl⟩
  have HLN := Lib.hid hn
  rw [hn]
  obtain ⟨r, hrr⟩ : ∃ r, decide (m ≤ n) = r := ⟨_, rfl⟩
  have HRR : Hid (decide (((n : Nat) : Int) ≥ ((m : Nat) : Int)) = r) := by
    show _ = _
    rw [← hrr]
    exact decide_eq_decide.2 (by omega)
  rw [hrr]
  clear H hr hn hrr
  go_enter Try.func27, Try.ntmps27
  go_upto_region 1 with fail
  refine wp_region_held_drew (S := fun w' => Below w.heap.size w w') (by kernel_rfl) (below_drewN (Below.refl _ w) 1) (fun hH => ?_)
  refine wpAnyH_take (i := 0) (v := .pointer (some ⟨h.hb, 0, none⟩)) rfl (by kernel_rfl) (by kernel_rfl) (by kernel_rfl) (fun _ _ _ h => h) (.inl ⟨by rfl, fun _ _ => by kernel_rfl⟩) hH ?_
  (try simp only [List.getElem_toArray, List.getElem_cons_zero, Act.put, List.setIfInBounds_toArray, List.set_cons_zero, List.set_cons_succ])
  refine wpAnyH_take (i := 1) (v := .bool false) rfl (by kernel_rfl) (by kernel_rfl) (by kernel_rfl) (fun _ _ _ h => h) (.inl ⟨by rfl, fun _ _ => by kernel_rfl⟩) hH ?_
  (try simp only [List.getElem_toArray, List.getElem_cons_zero, List.getElem_cons_succ, Act.put, List.setIfInBounds_toArray, List.set_cons_zero, List.set_cons_succ])
  refine wpAnyH_take (i := 2) (v := .bool false) rfl (by kernel_rfl) (by kernel_rfl) (by kernel_rfl) (fun _ _ _ h => h) (.inl ⟨by rfl, fun _ _ => by kernel_rfl⟩) hH ?_
  (try simp only [List.getElem_toArray, List.getElem_cons_zero, List.getElem_cons_succ, Act.put, List.setIfInBounds_toArray, List.set_cons_zero, List.set_cons_succ])
  refine wpAnyH_take (i := 3) (v := .pointer (some ⟨h.hb, 0, none⟩)) rfl (by kernel_rfl) (by kernel_rfl) (by kernel_rfl) (fun _ _ _ h => h) (.inl ⟨by rfl, fun _ _ => by kernel_rfl⟩) hH ?_
  (try simp only [List.getElem_toArray, List.getElem_cons_zero, List.getElem_cons_succ, Act.put, List.setIfInBounds_toArray, List.set_cons_zero, List.set_cons_succ])
  refine wpAnyH_take (i := 4) (v := .pointer (some ⟨h.hb, 0, none⟩)) rfl (by kernel_rfl) (by kernel_rfl) (by kernel_rfl) (fun _ _ _ h => h) (.inl ⟨by rfl, fun _ _ => by kernel_rfl⟩) hH ?_
  (try simp only [List.getElem_toArray, List.getElem_cons_zero, List.getElem_cons_succ, Act.put, List.setIfInBounds_toArray, List.set_cons_zero, List.set_cons_succ])
  refine wpAnyH_take (i := 5) (v := .pointer (some ⟨h.hb, 0, none⟩)) rfl (by kernel_rfl) (by kernel_rfl) (by kernel_rfl) (fun _ _ _ h => h) (.inl ⟨by rfl, fun _ _ => by kernel_rfl⟩) hH ?_
  (try simp only [List.getElem_toArray, List.getElem_cons_zero, List.getElem_cons_succ, Act.put, List.setIfInBounds_toArray, List.set_cons_zero, List.set_cons_succ])
  refine wpAnyH_take (i := 6) (v := .pointer (some ⟨h.hb, 0, none⟩)) rfl (by kernel_rfl) (by kernel_rfl) (by kernel_rfl) (fun _ _ _ h => h) (.inl ⟨by rfl, fun _ _ => by kernel_rfl⟩) hH ?_
  (try simp only [List.getElem_toArray, List.getElem_cons_zero, List.getElem_cons_succ, Act.put, List.setIfInBounds_toArray, List.set_cons_zero, List.set_cons_succ])
  refine wpAnyH_take (i := 7) (v := .slice h.A n h.c) rfl (by kernel_rfl) (by kernel_rfl) (by kernel_rfl) (fun _ _ _ h => h) (yieldsIf_loadP (by rfl) _ rfl rfl (fun _ q => load_spots (((HH.out.tch (S := fun _ => False) (Tch.of_below q) (fun _ _ e => e)).cell0).trans (by rw [HLN.out])))) hH ?_
  (try simp only [List.getElem_toArray, List.getElem_cons_zero, List.getElem_cons_succ, Act.put, List.setIfInBounds_toArray, List.set_cons_zero, List.set_cons_succ])
  refine wpAnyH_take (i := 8) (v := .int .i64 n) rfl (by kernel_rfl) (by kernel_rfl) (by kernel_rfl) (fun _ _ _ h => h) (.inl ⟨by rfl, fun _ _ => by kernel_rfl⟩) hH ?_
  (try simp only [List.getElem_toArray, List.getElem_cons_zero, List.getElem_cons_succ, Act.put, List.setIfInBounds_toArray, List.set_cons_zero, List.set_cons_succ])
  refine wpAnyH_take (i := 9) (v := .pointer (some ⟨h.hb, 0, none⟩)) rfl (by kernel_rfl) (by kernel_rfl) (by kernel_rfl) (fun _ _ _ h => h) (.inl ⟨by rfl, fun _ _ => by kernel_rfl⟩) hH ?_
  (try simp only [List.getElem_toArray, List.getElem_cons_zero, List.getElem_cons_succ, Act.put, List.setIfInBounds_toArray, List.set_cons_zero, List.set_cons_succ])
  refine wpAnyH_take (i := 10) (v := .pointer (some ⟨h.hb, 0, none⟩)) rfl (by kernel_rfl) (by kernel_rfl) (by kernel_rfl) (fun _ _ _ h => h) (.inl ⟨by rfl, fun _ _ => by kernel_rfl⟩) hH ?_
  (try simp only [List.getElem_toArray, List.getElem_cons_zero, List.getElem_cons_succ, Act.put, List.setIfInBounds_toArray, List.set_cons_zero, List.set_cons_succ])
  refine wpAnyH_take (i := 11) (v := .pointer (some ⟨h.hb, 2, none⟩)) rfl (by kernel_rfl) (by kernel_rfl) (by kernel_rfl) (fun _ _ _ h => h) (.inl ⟨by rfl, fun _ _ => by kernel_rfl⟩) hH ?_
  (try simp only [List.getElem_toArray, List.getElem_cons_zero, List.getElem_cons_succ, Act.put, List.setIfInBounds_toArray, List.set_cons_zero, List.set_cons_succ])
  refine wpAnyH_take (i := 12) (v := .int .i64 ((m : Nat) : Int)) rfl (by kernel_rfl) (by kernel_rfl) (by kernel_rfl) (fun _ _ _ h => h) (yieldsIf_loadP (by rfl) _ rfl rfl (fun _ q => load_i64H ((HH.out.tch (S := fun _ => False) (Tch.of_below q) (fun _ _ e => e)).cell2 HR0.out))) hH ?_
  (try simp only [List.getElem_toArray, List.getElem_cons_zero, List.getElem_cons_succ, Act.put, List.setIfInBounds_toArray, List.set_cons_zero, List.set_cons_succ])
  refine wpAnyH_take (i := 13) (v := .bool r) rfl (by kernel_rfl) (by kernel_rfl) (by kernel_rfl) (fun _ _ _ h => h) (yieldsIf_geqC HRR.out (by rfl) _ _ rfl rfl rfl) hH ?_
  (try simp only [List.getElem_toArray, List.getElem_cons_zero, List.getElem_cons_succ, Act.put, List.setIfInBounds_toArray, List.set_cons_zero, List.set_cons_succ])
  refine wpAnyH_take (i := 14) (v := .bool r) rfl (by kernel_rfl) (by kernel_rfl) (by kernel_rfl) (fun _ _ _ h => h) (.inl ⟨by rfl, fun _ _ => by kernel_rfl⟩) hH ?_
  (try simp only [List.getElem_toArray, List.getElem_cons_zero, List.getElem_cons_succ, Act.put, List.setIfInBounds_toArray, List.set_cons_zero, List.set_cons_succ])
  refine wpAnyH_take (i := 15) (v := .bool r) rfl (by kernel_rfl) (by kernel_rfl) (by kernel_rfl) (fun _ _ _ h => h) (.inl ⟨by rfl, fun _ _ => by kernel_rfl⟩) hH ?_
  (try simp only [List.getElem_toArray, List.getElem_cons_zero, List.getElem_cons_succ, Act.put, List.setIfInBounds_toArray, List.set_cons_zero, List.set_cons_succ])
  refine wpAnyH_done (by kernel_rfl) ?_ _
  go_wp2_with fail
  go_ret
  exact ⟨rfl, hH⟩
set_option maxRecDepth 100000 in
set_option maxHeartbeats 4000000 in
theorem b_worst (h : HR) (w : World) (H : HpAt w h) : Calls Try.prog 28 #[.pointer (some ⟨h.hb, 0, none⟩)] w (fun e w' => e = .returned (.tuple #[spV (sg h.L 0), .bool (decide (0 < h.L.length))]) ∧ Below w.heap.size w w') := by
  obtain ⟨w1, hw1⟩ : ∃ x, w.alloc (.cells spZ0 35) = x := ⟨_, rfl⟩
  have b1 : Below w.heap.size w w1 := by rw [← hw1]; exact bel_box _ _
  have k1 : Blk w1 w.heap.size 35 spZ0 := by rw [← hw1]; exact Blk.new _ _ _
  have HF := Lib.hid (hp_first h w1 (H.tch (Tch.of_below (S := fun _ => False) b1) (fun _ _ q => q)))
  have HB1 := Lib.hid b1
  have HK1 := Lib.hid k1
  obtain ⟨x, hx⟩ : ∃ x, sg h.L 0 = x := ⟨_, rfl⟩
  obtain ⟨r, hr⟩ : ∃ r, decide (0 < h.L.length) = r := ⟨_, rfl⟩
  rw [hx, hr] at HF ⊢
  unfold spZ0 at hw1
  clear H b1 k1 hx hr
  go_enter Try.func28, Try.ntmps28
  go_upto_region 1 with fail
  (try rw [hw1])
  clear hw1
  go_wp2_with (first
    | (go_at_call 45; (with_reducible refine HF.out.mono ?_); rintro e w2 ⟨rfl, hb⟩; have HB2 := Lib.hid (HB1.out.trans (hb.mono HB1.out.size)); have k2 := HK1.out.below hb HK1.out.lt; have SR : (Instr.storeAt 35 (.pointer (some ⟨w.heap.size, 0, none⟩)) (spV x)).run Try.prog w2 = .ok () _ := row_store k2 (spC x) rfl spotTK (by simp [spC, Value.oneCell']); obtain ⟨V, hV⟩ : ∃ V, w2.setCells w.heap.size 0 (spC x).toList = V := ⟨_, rfl⟩; rw [hV] at SR; have HV : Hid (Blk V w.heap.size 35 (spC x)) := (by show Blk _ _ _ _; rw [← hV]; exact k2.put _ rfl); have HBV : Hid (Below w.heap.size w V) := (by show Below _ _ _; rw [← hV]; exact HB2.out.trans ((Tch.setCells (S := fun k => k = w.heap.size) rfl _ _ w2 (Tch.refl _ w2)).below HB2.out.size (fun k hk => Nat.le_of_eq hk.symm))); clear hb k2 hV)
    | refine wpList_storeE SR _ _ rfl rfl rfl rfl ?_)
  refine bodyPost_ret (v := .tuple #[spV x, .bool r]) ?_ rfl ⟨rfl, HBV.out⟩
  exact results_row11K (P := Try.prog) Try.results28 _ rfl HV.out Try.underlying35 rfl spotTK
set_option maxRecDepth 100000 in
set_option maxHeartbeats 4000000 in
theorem b_list (h : HR) (w : World) (H : HpAt w h) (hn : h.L.length ≤ 1048576) : Calls Try.prog 13 #[.pointer (some ⟨h.hb, 0, none⟩)] w (RetO (sortSp h.L) w) := by
  have c0 := H.cell0
  obtain ⟨k1, k2⟩ := own_spAt H.own rfl
  have HS := Lib.hid (rank_sort h.A h.L.length h.c h.L w k1 (fun e => by
    rcases H.row with ⟨_, q1, q2⟩ | ⟨g, q, _⟩
    · exact ⟨by rw [q1]; rfl, q2⟩
    · rw [q] at e; cases e) (by omega))
  clear H k1 k2 hn
  go_enter Try.func13, Try.ntmps13
  go_wp2_with (go_at_call 31; (with_reducible refine HS.out.mono ?_); rintro e w1 ⟨A', n', c', rfl, hs, h1, h2, h3, hb⟩; replace hs := Lib.hid hs; replace h1 := Lib.hid h1; replace h2 := Lib.hid h2; replace h3 := Lib.hid h3; replace hb := Lib.hid hb)
  go_ret
  exact ⟨A', n', c', rfl, hs.out, h1.out, h2.out, h3.out, hb.out⟩
set_option maxRecDepth 100000 in
theorem q_newE (w : World) : Calls Try.prog 10 #[] w (fun e w' => e = .returned (.pointer (some ⟨w.heap.size, 0, none⟩)) ∧ w.alloc (.cells #[.slice none 0 0, fvA 21] 63) = w') := by
  unfold fvA
  go_enter Try.func10, Try.ntmps10
  go_wp2_with fail
  go_ret
  exact ⟨rfl, rfl⟩
set_option maxRecDepth 100000 in
theorem b_newE (most : Int) (w : World) : Calls Try.prog 9 #[.int .i64 most] w (fun e w' => e = .returned (.pointer (some ⟨w.heap.size, 0, none⟩)) ∧ w.alloc (.cells #[.slice none 0 0, fvA 26, .int .i64 (min (max most 0) 4096)] 61) = w') := by
  unfold fvA
  go_enter Try.func9, Try.ntmps9
  go_wp2_with fail
  go_ret
  exact ⟨rfl, rfl⟩
/-- What Offer does. -/
def RetF (m : Nat) (h : HR) (S : List Sp) (x : Sp) (w : World) (e : Ending) (w' : World) : Prop :=
  ∃ r A' c' L', e = .returned (.bool r) ∧ HpAt w' { h with A := A', c := c', L := L' } ∧ Hp (fun a b => ahB b a) L' ∧ BI m (S ++ [x]) L' ∧ Tch (foot h) w w' ∧ (A' = h.A ∨ ∃ g, A' = some ⟨g, 0, none⟩ ∧ w.heap.size ≤ g) ∧ ((0 < m ∧ (h.L.length < m ∨ ahB x (sg h.L 0) = true)) → r = true)
set_option maxRecDepth 100000 in
set_option maxHeartbeats 8000000 in
theorem b_offerE (m : Nat) (hm : m ≤ 4096) (h : HR) (S : List Sp) (x : Sp) (w : World) (H : HpAt w h) (hf : h.f = 26) (hr : h.rest = [.int .i64 ((m : Nat) : Int)]) (hH : Hp (fun a b => ahB b a) h.L) (hB : BI m S h.L) :
    Calls Try.prog 11 #[.pointer (some ⟨h.hb, 0, none⟩), spV x] w (RetF m h S x w) := by
  obtain ⟨w1, hw1⟩ : ∃ y, w.alloc (.cells #[.int .u64 x.d, .int .u64 x.id, .int .i64 x.s] 35) = y := ⟨_, rfl⟩
  have hS : Blk w1 w.heap.size 35 (spC x) := by rw [← hw1]; exact Blk.new _ _ _
  have b1 : Below w.heap.size w w1 := by rw [← hw1]; exact bel_box _ _
  have H1 : HpAt w1 h := H.tch (Tch.of_below (S := fun _ => False) b1) (fun _ _ q => q)
  have c2 := H1.cell2 hr
  have HH1 := Lib.hid H1
  have HBX := Lib.hid hS
  have HB1 := Lib.hid b1
  have HFT := Lib.hid H.foot_lt
  have HF : Hid (AhF h.f (fun a b => ahB b a)) := by show AhF _ _; rw [hf]; exact ah_behind
  have HHP := Lib.hid hH
  have HBI := Lib.hid hB
  have HM : Hid (m ≤ 4096 ∧ h.L.length ≤ m) := ⟨hm, by rw [hB.len]; exact Nat.min_le_left _ _⟩
  have HR0 := Lib.hid hr
  have HBXF : Hid (¬ foot h w.heap.size) := fun q => Nat.lt_irrefl _ (H.foot_lt _ q)
  have HFU := Lib.hid (b_fullE m h w1 H1 hr)
  clear hS b1 H H1 hf hr hH hB hm
  obtain rfl | hm0 := Nat.eq_zero_or_pos m
  · unfold spV
    go_enter Try.func11, Try.ntmps11
    go_upto_region 1 with fail
    (try rw [hw1])
    clear hw1 HFU
    go_wp2_with fail
    go_ret
    exact ⟨false, h.A, h.c, h.L, rfl, HH1.out, HHP.out, HBI.out.skip (Nat.zero_le _) (fun a ha => by
      have h1 := HM.out.2
      have := List.length_pos_of_mem ha
      omega), Tch.of_below HB1.out, .inl rfl, fun q => absurd q.1 (by decide)⟩
  have tz : decide (m = 0) = false := decide_eq_false (by omega)
  by_cases hf : m ≤ h.L.length
  · have tf : decide (m ≤ h.L.length) = true := decide_eq_true hf
    rw [tf] at HFU
    have HFL := Lib.hid hf
    obtain ⟨y, hy⟩ : ∃ y, sg h.L 0 = y := ⟨_, rfl⟩
    have HY := Lib.hid hy
    have hn0 : 0 < h.L.length := by omega
    have hpos : decide (0 < h.L.length) = true := decide_eq_true hn0
    have HN0 := Lib.hid hn0
    have HW : Hid (∀ w2, Below w1.heap.size w1 w2 → Calls Try.prog 28 #[.pointer (some ⟨h.hb, 0, none⟩)] w2 (fun e w' => e = .returned (.tuple #[spV y, .bool true]) ∧ Below w2.heap.size w2 w')) := by
      intro w2 hb
      have := b_worst h w2 (HH1.out.tch (Tch.of_below (S := fun _ => False) hb) (fun _ _ q => q))
      rw [hy, hpos] at this
      exact this
    have HYH : Hid (∀ a ∈ h.L, ahB y a = false) := by
      intro a ha
      have := HHP.out.head (tot_flip tot_ahB) ha
      rw [hy] at this
      exact this
    clear hf tf hy hn0 hpos
    cases ta : ahB x y
    · have TA := Lib.hid ta
      unfold spV
      go_enter Try.func11, Try.ntmps11
      go_upto_region 1 with fail
      (try rw [hw1])
      clear hw1
      go_upto_region 5 with (first
        | (go_at_call 27; (with_reducible refine HFU.out.mono ?_); rintro e w2 ⟨rfl, hb⟩; have HB2 := Lib.hid hb; clear hb)
        | (go_at_call 28; (with_reducible refine (HW.out _ HB2.out).mono ?_); rintro e w3 ⟨rfl, hb⟩; have HB3 := Lib.hid (HB2.out.trans (hb.mono HB2.out.size)); obtain ⟨w4, hw4⟩ : ∃ z, (w3.alloc (.cells #[.int .u64 0, .int .u64 0, .int .i64 0] 35)).setCells w3.heap.size 0 (spC y).toList = z := ⟨_, rfl⟩; have SI : (Instr.storeAt 35 (.pointer (some ⟨w3.heap.size, 0, none⟩)) (spV y)).run Try.prog _ = _ := spB_put w3 y; rw [hw4] at SI; have HY4 : Hid (Blk w4 w3.heap.size 35 (spC y)) := (by show Blk _ _ _ _; rw [← hw4]; exact spB_blk w3 y); have HB4 : Hid (Below w1.heap.size w1 w4) := (by show Below _ _ _; rw [← hw4]; exact HB3.out.trans ((put_bel _ _ _).mono HB3.out.size)); clear hb hw4)
        | refine wpList_storeE SI _ _ rfl rfl rfl rfl ?_)
      clear SI HW HFU
      have HBX4 : Hid (Blk w4 w.heap.size 35 (spC x)) := HBX.out.below HB4.out HBX.out.lt
      have L1 : (Instr.loadAt 35 (.pointer (some ⟨w.heap.size, 0, none⟩))).run Try.prog w4 = .ok (spV x) w4 := spB_load HBX4.out
      have L2 : (Instr.loadAt 35 (.pointer (some ⟨w3.heap.size, 0, none⟩))).run Try.prog w4 = .ok (spV y) w4 := spB_load HY4.out
      have HSPT := Lib.hid (rank_spot x y w4)
      rw [TA.out] at HSPT
      go_upto_region 7 with (first | refine wpList_loadE L1 _ rfl rfl rfl ?_ | refine wpList_loadE L2 _ rfl rfl rfl ?_ | (go_at_call 21; (with_reducible refine HSPT.out.mono ?_); rintro e w6 ⟨rfl, g6⟩; have HB46 := Lib.hid g6.below; clear g6))
      clear L1 L2 HSPT
      have HB16 : Hid (Below w1.heap.size w1 w6) := HB4.out.trans (HB46.out.mono HB4.out.size)
      have HB6 : Hid (Below w.heap.size w w6) := HB1.out.trans (HB16.out.mono HB1.out.size)
      have HH6 : Hid (HpAt w6 h) := HH1.out.tch (Tch.of_below (S := fun _ => False) HB16.out) (fun _ _ q => q)
      have HBX6 : Hid (Blk w6 w.heap.size 35 (spC x)) := HBX.out.below HB16.out HBX.out.lt
      go_wp2_with fail
      go_ret
      exact ⟨false, h.A, h.c, h.L, rfl, HH6.out, HHP.out, HBI.out.skip HFL.out (fun a ha => tot_ahB.nt (HYH.out a ha) TA.out), (Tch.of_below HB6.out), .inl rfl, fun q => by
        rcases q.2 with q2 | q2
        · have := HFL.out; omega
        · rw [HY.out, TA.out] at q2; cases q2⟩
    · have TA := Lib.hid ta
      unfold spV
      go_enter Try.func11, Try.ntmps11
      go_upto_region 1 with fail
      (try rw [hw1])
      clear hw1
      go_upto_region 5 with (first
        | (go_at_call 27; (with_reducible refine HFU.out.mono ?_); rintro e w2 ⟨rfl, hb⟩; have HB2 := Lib.hid hb; clear hb)
        | (go_at_call 28; (with_reducible refine (HW.out _ HB2.out).mono ?_); rintro e w3 ⟨rfl, hb⟩; have HB3 := Lib.hid (HB2.out.trans (hb.mono HB2.out.size)); obtain ⟨w4, hw4⟩ : ∃ z, (w3.alloc (.cells #[.int .u64 0, .int .u64 0, .int .i64 0] 35)).setCells w3.heap.size 0 (spC y).toList = z := ⟨_, rfl⟩; have SI : (Instr.storeAt 35 (.pointer (some ⟨w3.heap.size, 0, none⟩)) (spV y)).run Try.prog _ = _ := spB_put w3 y; rw [hw4] at SI; have HY4 : Hid (Blk w4 w3.heap.size 35 (spC y)) := (by show Blk _ _ _ _; rw [← hw4]; exact spB_blk w3 y); have HB4 : Hid (Below w1.heap.size w1 w4) := (by show Below _ _ _; rw [← hw4]; exact HB3.out.trans ((put_bel _ _ _).mono HB3.out.size)); clear hb hw4)
        | refine wpList_storeE SI _ _ rfl rfl rfl rfl ?_)
      clear SI HW HFU
      have HBX4 : Hid (Blk w4 w.heap.size 35 (spC x)) := HBX.out.below HB4.out HBX.out.lt
      have L1 : (Instr.loadAt 35 (.pointer (some ⟨w.heap.size, 0, none⟩))).run Try.prog w4 = .ok (spV x) w4 := spB_load HBX4.out
      have L2 : (Instr.loadAt 35 (.pointer (some ⟨w3.heap.size, 0, none⟩))).run Try.prog w4 = .ok (spV y) w4 := spB_load HY4.out
      have HSPT := Lib.hid (rank_spot x y w4)
      rw [TA.out] at HSPT
      go_upto_region 7 with (first | refine wpList_loadE L1 _ rfl rfl rfl ?_ | refine wpList_loadE L2 _ rfl rfl rfl ?_ | (go_at_call 21; (with_reducible refine HSPT.out.mono ?_); rintro e w6 ⟨rfl, g6⟩; have HB46 := Lib.hid g6.below; clear g6))
      clear L1 L2 HSPT
      have HB16 : Hid (Below w1.heap.size w1 w6) := HB4.out.trans (HB46.out.mono HB4.out.size)
      have HB6 : Hid (Below w.heap.size w w6) := HB1.out.trans (HB16.out.mono HB1.out.size)
      have HH6 : Hid (HpAt w6 h) := HH1.out.tch (Tch.of_below (S := fun _ => False) HB16.out) (fun _ _ q => q)
      have HBX6 : Hid (Blk w6 w.heap.size 35 (spC x)) := HBX.out.below HB16.out HBX.out.lt
      have HPOP := Lib.hid (hp_pop (tot_flip tot_ahB) h HF.out w6 HH6.out HHP.out (by have := HM.out; omega) HN0.out)
      go_upto_region 8 with (go_at_call 29; (with_reducible refine HPOP.out.mono ?_); rintro e w7 ⟨rfl, K, hat, hpm, hhp, hte⟩; replace hat := Lib.hid hat; replace hpm := Lib.hid hpm; replace hhp := Lib.hid hhp; replace hte := Lib.hid hte)
      clear HPOP
      have HKL : Hid (K.length + 1 = h.L.length) := by show _ = _; have := hpm.out.length_eq; simpa using this
      have HBX7 : Hid (Blk w7 w.heap.size 35 (spC x)) := (HBX6.out).tch hte.out HBXF.out
      have HPU := Lib.hid (hp_push (tot_flip tot_ahB) { h with L := K } HF.out x w7.drew (HpAt.tch (w' := w7.drew) hat.out ((Tch.refl (fun _ => False) w7).drewN 1) (fun _ _ q => q)) hhp.out (by have h1 := HM.out; have h2 := HKL.out; show K.length < _; omega))
      refine wp_region_held_drew (S := fun w' => Blk w' w.heap.size 35 (spC x)) (by kernel_rfl) (HBX7.out) (fun hH => ?_)
      refine wpAnyH_take (i := 0) (v := .pointer (some ⟨h.hb, 0, none⟩)) rfl (by kernel_rfl) (by kernel_rfl) (by kernel_rfl) (fun _ _ _ h => h) (.inl ⟨by rfl, fun _ _ => by kernel_rfl⟩) hH ?_
      (try simp only [List.getElem_toArray, List.getElem_cons_zero, Act.put, List.setIfInBounds_toArray, List.set_cons_zero, List.set_cons_succ])
      refine wpAnyH_take (i := 1) (v := .pointer (some ⟨h.hb, 0, none⟩)) rfl (by kernel_rfl) (by kernel_rfl) (by kernel_rfl) (fun _ _ _ h => h) (.inl ⟨by rfl, fun _ _ => by kernel_rfl⟩) hH ?_
      (try simp only [List.getElem_toArray, List.getElem_cons_zero, List.getElem_cons_succ, Act.put, List.setIfInBounds_toArray, List.set_cons_zero, List.set_cons_succ])
      refine wpAnyH_take (i := 2) (v := .pointer (some ⟨h.hb, 0, none⟩)) rfl (by kernel_rfl) (by kernel_rfl) (by kernel_rfl) (fun _ _ _ h => h) (.inl ⟨by rfl, fun _ _ => by kernel_rfl⟩) hH ?_
      (try simp only [List.getElem_toArray, List.getElem_cons_zero, List.getElem_cons_succ, Act.put, List.setIfInBounds_toArray, List.set_cons_zero, List.set_cons_succ])
      refine wpAnyH_take (i := 3) (v := spV x) rfl (by kernel_rfl) (by kernel_rfl) (by kernel_rfl) (fun _ _ _ h => h) (yieldsIf_loadP (by rfl) _ rfl rfl (fun _ q => spB_load q)) hH ?_
      (try simp only [List.getElem_toArray, List.getElem_cons_zero, List.getElem_cons_succ, Act.put, List.setIfInBounds_toArray, List.set_cons_zero, List.set_cons_succ])
      refine wpAnyH_call 4 30 #[.pointer (some ⟨h.hb, 0, none⟩), spV x] _ (by kernel_rfl) (by rfl) (by kernel_rfl) (by kernel_rfl) HPU.out ?_
      rintro e Z ⟨rfl, A', c', L', hat2, hpm2, hhp2, hte2, g2, e2, hg2⟩
      have hte3 : Tch (foot h) w7 Z := ⟨hte2.os, hte2.tape, hte2.output, hte2.size, hte2.block⟩
      refine ⟨_, rfl, HBX7.out.tch (w' := Z) hte3 HBXF.out, ?_⟩
      replace hat2 := Lib.hid hat2
      replace hpm2 := Lib.hid hpm2
      replace hhp2 := Lib.hid hhp2
      replace hte2 := Lib.hid hte3
      clear hte3
      replace e2 := Lib.hid e2
      replace hg2 := Lib.hid hg2
      (try simp only [List.getElem_toArray, List.getElem_cons_zero, List.getElem_cons_succ, Act.put, List.setIfInBounds_toArray, List.set_cons_zero, List.set_cons_succ])
      refine wpAnyH_done (by kernel_rfl) ?_ _
      go_wp2_with fail
      go_ret
      refine ⟨true, A', c', L', rfl, hat2.out, hhp2.out, HBI.out.swap HFL.out HYH.out TA.out (by have := hpm.out; rw [HY.out] at this; exact this) hpm2.out, ((Tch.of_below HB6.out).trans (S' := foot h) hte.out (fun k q => .inl q)).trans hte2.out (fun k q => .inl q), ?_, fun _ => rfl⟩
      rcases hg2.out with q | q
      · exact .inl (e2.out.trans q.symm)
      · exact .inr ⟨g2, e2.out, Nat.le_trans (Nat.le_trans HB6.out.size hte.out.size) q⟩
  · have tf : decide (m ≤ h.L.length) = false := decide_eq_false hf
    rw [tf] at HFU
    have HFL : Hid (h.L.length < m) := by show _ < _; omega
    clear hf tf
    unfold spV
    go_enter Try.func11, Try.ntmps11
    go_upto_region 1 with fail
    (try rw [hw1])
    clear hw1
    go_upto_region 8 with (go_at_call 27; (with_reducible refine HFU.out.mono ?_); rintro e w2 ⟨rfl, hb⟩; replace hb := Lib.hid hb)
    have HH2 : Hid (HpAt w2 h) := HH1.out.tch (Tch.of_below (S := fun _ => False) hb.out) (fun _ _ q => q)
    have HBX7 : Hid (Blk w2 w.heap.size 35 (spC x)) := HBX.out.below hb.out HBX.out.lt
    have HPU := Lib.hid (hp_push (tot_flip tot_ahB) h HF.out x w2.drew (HH2.out.tch (w' := w2.drew) ((Tch.refl (fun _ => False) w2).drewN 1) (fun _ _ q => q)) HHP.out (by have h1 := HM.out; omega))
    refine wp_region_held_drew (S := fun w' => Blk w' w.heap.size 35 (spC x)) (by kernel_rfl) (HBX7.out) (fun hH => ?_)
    refine wpAnyH_take (i := 0) (v := .pointer (some ⟨h.hb, 0, none⟩)) rfl (by kernel_rfl) (by kernel_rfl) (by kernel_rfl) (fun _ _ _ h => h) (.inl ⟨by rfl, fun _ _ => by kernel_rfl⟩) hH ?_
    (try simp only [List.getElem_toArray, List.getElem_cons_zero, Act.put, List.setIfInBounds_toArray, List.set_cons_zero, List.set_cons_succ])
    refine wpAnyH_take (i := 1) (v := .pointer (some ⟨h.hb, 0, none⟩)) rfl (by kernel_rfl) (by kernel_rfl) (by kernel_rfl) (fun _ _ _ h => h) (.inl ⟨by rfl, fun _ _ => by kernel_rfl⟩) hH ?_
    (try simp only [List.getElem_toArray, List.getElem_cons_zero, List.getElem_cons_succ, Act.put, List.setIfInBounds_toArray, List.set_cons_zero, List.set_cons_succ])
    refine wpAnyH_take (i := 2) (v := .pointer (some ⟨h.hb, 0, none⟩)) rfl (by kernel_rfl) (by kernel_rfl) (by kernel_rfl) (fun _ _ _ h => h) (.inl ⟨by rfl, fun _ _ => by kernel_rfl⟩) hH ?_
    (try simp only [List.getElem_toArray, List.getElem_cons_zero, List.getElem_cons_succ, Act.put, List.setIfInBounds_toArray, List.set_cons_zero, List.set_cons_succ])
    refine wpAnyH_take (i := 3) (v := spV x) rfl (by kernel_rfl) (by kernel_rfl) (by kernel_rfl) (fun _ _ _ h => h) (yieldsIf_loadP (by rfl) _ rfl rfl (fun _ q => spB_load q)) hH ?_
    (try simp only [List.getElem_toArray, List.getElem_cons_zero, List.getElem_cons_succ, Act.put, List.setIfInBounds_toArray, List.set_cons_zero, List.set_cons_succ])
    refine wpAnyH_call 4 30 #[.pointer (some ⟨h.hb, 0, none⟩), spV x] _ (by kernel_rfl) (by rfl) (by kernel_rfl) (by kernel_rfl) HPU.out ?_
    rintro e Z ⟨rfl, A', c', L', hat2, hpm2, hhp2, hte2, g2, e2, hg2⟩
    have hte3 : Tch (foot h) w2 Z := ⟨hte2.os, hte2.tape, hte2.output, hte2.size, hte2.block⟩
    refine ⟨_, rfl, HBX7.out.tch (w' := Z) hte3 HBXF.out, ?_⟩
    replace hat2 := Lib.hid hat2
    replace hpm2 := Lib.hid hpm2
    replace hhp2 := Lib.hid hhp2
    replace hte2 := Lib.hid hte3
    clear hte3
    replace e2 := Lib.hid e2
    replace hg2 := Lib.hid hg2
    (try simp only [List.getElem_toArray, List.getElem_cons_zero, List.getElem_cons_succ, Act.put, List.setIfInBounds_toArray, List.set_cons_zero, List.set_cons_succ])
    refine wpAnyH_done (by kernel_rfl) ?_ _
    go_wp2_with fail
    go_ret
    refine ⟨true, A', c', L', rfl, hat2.out, hhp2.out, HBI.out.push HFL.out hpm2.out, (Tch.of_below (HB1.out.trans (hb.out.mono HB1.out.size))).trans hte2.out (fun k q => .inl q), ?_, fun _ => rfl⟩
    rcases hg2.out with q | q
    · exact .inl (e2.out.trans q.symm)
    · exact .inr ⟨g2, e2.out, Nat.le_trans (Nat.le_trans HB1.out.size hb.out.size) q⟩
set_option maxRecDepth 100000 in
set_option maxHeartbeats 4000000 in
theorem q_pushE (h : HR) (x : Sp) (w : World) (H : HpAt w h) (hf : h.f = 21) (hH : Hp ahB h.L) (hn : h.L.length < 1048576) :
    Calls Try.prog 12 #[.pointer (some ⟨h.hb, 0, none⟩), spV x] w (fun e w' => e = .returned (.tuple #[]) ∧ ∃ A' c' L', HpAt w' { h with A := A', c := c', L := L' } ∧ Hp ahB L' ∧ L'.Perm (h.L ++ [x]) ∧ Tch (foot h) w w' ∧ (A' = h.A ∨ ∃ g, A' = some ⟨g, 0, none⟩ ∧ w.heap.size ≤ g)) := by
  obtain ⟨w1, hw1⟩ : ∃ y, w.alloc (.cells #[.int .u64 x.d, .int .u64 x.id, .int .i64 x.s] 35) = y := ⟨_, rfl⟩
  have hS : Blk w1 w.heap.size 35 (spC x) := by rw [← hw1]; exact Blk.new _ _ _
  have b1 : Below w.heap.size w w1 := by rw [← hw1]; exact bel_box _ _
  have H1 : HpAt w1 h := H.tch (Tch.of_below (S := fun _ => False) b1) (fun _ _ q => q)
  have HBX7 := Lib.hid hS
  have HB1 := Lib.hid b1
  have HF : Hid (AhF h.f ahB) := by show AhF _ _; rw [hf]; exact ah_spot
  have HBXF : Hid (¬ foot h w.heap.size) := fun q => Nat.lt_irrefl _ (H.foot_lt _ q)
  have HPU := Lib.hid (hp_push tot_ahB h HF.out x w1.drew (H1.tch (w' := w1.drew) ((Tch.refl (fun _ => False) w1).drewN 1) (fun _ _ q => q)) hH hn)
  clear hS b1 H H1 hf hH hn
  unfold spV
  go_enter Try.func12, Try.ntmps12
  go_upto_region 1 with fail
  (try rw [hw1])
  clear hw1
  go_upto_region 2 with fail
  refine wp_region_held_drew (S := fun w' => Blk w' w.heap.size 35 (spC x)) (by kernel_rfl) (HBX7.out) (fun hH => ?_)
  refine wpAnyH_take (i := 0) (v := .pointer (some ⟨h.hb, 0, none⟩)) rfl (by kernel_rfl) (by kernel_rfl) (by kernel_rfl) (fun _ _ _ h => h) (.inl ⟨by rfl, fun _ _ => by kernel_rfl⟩) hH ?_
  (try simp only [List.getElem_toArray, List.getElem_cons_zero, Act.put, List.setIfInBounds_toArray, List.set_cons_zero, List.set_cons_succ])
  refine wpAnyH_take (i := 1) (v := .pointer (some ⟨h.hb, 0, none⟩)) rfl (by kernel_rfl) (by kernel_rfl) (by kernel_rfl) (fun _ _ _ h => h) (.inl ⟨by rfl, fun _ _ => by kernel_rfl⟩) hH ?_
  (try simp only [List.getElem_toArray, List.getElem_cons_zero, List.getElem_cons_succ, Act.put, List.setIfInBounds_toArray, List.set_cons_zero, List.set_cons_succ])
  refine wpAnyH_take (i := 2) (v := .pointer (some ⟨h.hb, 0, none⟩)) rfl (by kernel_rfl) (by kernel_rfl) (by kernel_rfl) (fun _ _ _ h => h) (.inl ⟨by rfl, fun _ _ => by kernel_rfl⟩) hH ?_
  (try simp only [List.getElem_toArray, List.getElem_cons_zero, List.getElem_cons_succ, Act.put, List.setIfInBounds_toArray, List.set_cons_zero, List.set_cons_succ])
  refine wpAnyH_take (i := 3) (v := spV x) rfl (by kernel_rfl) (by kernel_rfl) (by kernel_rfl) (fun _ _ _ h => h) (yieldsIf_loadP (by rfl) _ rfl rfl (fun _ q => spB_load q)) hH ?_
  (try simp only [List.getElem_toArray, List.getElem_cons_zero, List.getElem_cons_succ, Act.put, List.setIfInBounds_toArray, List.set_cons_zero, List.set_cons_succ])
  refine wpAnyH_call 4 30 #[.pointer (some ⟨h.hb, 0, none⟩), spV x] _ (by kernel_rfl) (by rfl) (by kernel_rfl) (by kernel_rfl) HPU.out ?_
  rintro e Z ⟨rfl, A', c', L', hat2, hpm2, hhp2, hte2, g2, e2, hg2⟩
  have hte3 : Tch (foot h) w1 Z := ⟨hte2.os, hte2.tape, hte2.output, hte2.size, hte2.block⟩
  refine ⟨_, rfl, HBX7.out.tch (w' := Z) hte3 HBXF.out, ?_⟩
  replace hat2 := Lib.hid hat2
  replace hpm2 := Lib.hid hpm2
  replace hhp2 := Lib.hid hhp2
  replace hte2 := Lib.hid hte3
  clear hte3
  replace e2 := Lib.hid e2
  replace hg2 := Lib.hid hg2
  (try simp only [List.getElem_toArray, List.getElem_cons_zero, List.getElem_cons_succ, Act.put, List.setIfInBounds_toArray, List.set_cons_zero, List.set_cons_succ])
  refine wpAnyH_done (by kernel_rfl) ?_ _
  go_wp2_with fail
  go_end0
  refine ⟨rfl, A', c', L', hat2.out, hhp2.out, hpm2.out, (Tch.of_below HB1.out).trans hte2.out (fun k q => .inl q), ?_⟩
  rcases hg2.out with q | q
  · exact .inl (e2.out.trans q.symm)
  · exact .inr ⟨g2, e2.out, Nat.le_trans HB1.out.size q⟩
set_option maxRecDepth 100000 in
set_option maxHeartbeats 4000000 in
theorem q_peek (h : HR) (w : World) (H : HpAt w h) : Calls Try.prog 32 #[.pointer (some ⟨h.hb, 0, none⟩)] w (fun e w' => e = .returned (.tuple #[spV (sg h.L 0), .bool (decide (0 < h.L.length))]) ∧ Below w.heap.size w w') := by
  obtain ⟨w1, hw1⟩ : ∃ x, w.alloc (.cells spZ0 35) = x := ⟨_, rfl⟩
  have b1 : Below w.heap.size w w1 := by rw [← hw1]; exact bel_box _ _
  have k1 : Blk w1 w.heap.size 35 spZ0 := by rw [← hw1]; exact Blk.new _ _ _
  have HF := Lib.hid (hp_first h w1 (H.tch (Tch.of_below (S := fun _ => False) b1) (fun _ _ q => q)))
  have HB1 := Lib.hid b1
  have HK1 := Lib.hid k1
  obtain ⟨x, hx⟩ : ∃ x, sg h.L 0 = x := ⟨_, rfl⟩
  obtain ⟨r, hr⟩ : ∃ r, decide (0 < h.L.length) = r := ⟨_, rfl⟩
  rw [hx, hr] at HF ⊢
  unfold spZ0 at hw1
  clear H b1 k1 hx hr
  go_enter Try.func32, Try.ntmps32
  go_upto_region 1 with fail
  (try rw [hw1])
  clear hw1
  go_wp2_with (first
    | (go_at_call 45; (with_reducible refine HF.out.mono ?_); rintro e w2 ⟨rfl, hb⟩; have HB2 := Lib.hid (HB1.out.trans (hb.mono HB1.out.size)); have k2 := HK1.out.below hb HK1.out.lt; have SR : (Instr.storeAt 35 (.pointer (some ⟨w.heap.size, 0, none⟩)) (spV x)).run Try.prog w2 = .ok () _ := row_store k2 (spC x) rfl spotTK (by simp [spC, Value.oneCell']); obtain ⟨V, hV⟩ : ∃ V, w2.setCells w.heap.size 0 (spC x).toList = V := ⟨_, rfl⟩; rw [hV] at SR; have HV : Hid (Blk V w.heap.size 35 (spC x)) := (by show Blk _ _ _ _; rw [← hV]; exact k2.put _ rfl); have HBV : Hid (Below w.heap.size w V) := (by show Below _ _ _; rw [← hV]; exact HB2.out.trans ((Tch.setCells (S := fun k => k = w.heap.size) rfl _ _ w2 (Tch.refl _ w2)).below HB2.out.size (fun k hk => Nat.le_of_eq hk.symm))); clear hb k2 hV)
    | refine wpList_storeE SR _ _ rfl rfl rfl rfl ?_)
  refine bodyPost_ret (v := .tuple #[spV x, .bool r]) ?_ rfl ⟨rfl, HBV.out⟩
  exact results_row11K (P := Try.prog) Try.results32 _ rfl HV.out Try.underlying35 rfl spotTK
set_option maxRecDepth 100000 in
set_option maxHeartbeats 4000000 in
/-- The first of a queue that is not empty, taken. -/
theorem q_popE (h : HR) (w : World) (H : HpAt w h) (hf : h.f = 21) (hH : Hp ahB h.L) (hn : h.L.length ≤ 1048576) (h0 : 0 < h.L.length) :
    Calls Try.prog 14 #[.pointer (some ⟨h.hb, 0, none⟩)] w (fun e w' => ∃ L', e = .returned (.tuple #[spV (sg h.L 0), .bool true]) ∧ HpAt w' { h with L := L' } ∧ (sg h.L 0 :: L').Perm h.L ∧ Hp ahB L' ∧ Tch (foot h) w w') := by
  obtain ⟨w1, hw1⟩ : ∃ x, w.alloc (.cells spZ0 35) = x := ⟨_, rfl⟩
  have b1 : Below w.heap.size w w1 := by rw [← hw1]; exact bel_box _ _
  have k1 : Blk w1 w.heap.size 35 spZ0 := by rw [← hw1]; exact Blk.new _ _ _
  have H1 : HpAt w1 h := H.tch (Tch.of_below (S := fun _ => False) b1) (fun _ _ q => q)
  have hpk := q_peek h w1 H1
  have hpos : decide (0 < h.L.length) = true := decide_eq_true h0
  have HF : Hid (AhF h.f ahB) := by show AhF _ _; rw [hf]; exact ah_spot
  have HHP := Lib.hid hH
  have HLT : Hid (h.L.length ≤ 1048576 ∧ 0 < h.L.length) := ⟨hn, h0⟩
  have HRF : Hid (¬ foot h w.heap.size) := fun q => Nat.lt_irrefl _ (H.foot_lt _ q)
  have HFT := Lib.hid H.foot_lt
  have HH1 := Lib.hid H1
  have HB1 := Lib.hid b1
  have HK1 := Lib.hid k1
  obtain ⟨x, hx⟩ : ∃ x, sg h.L 0 = x := ⟨_, rfl⟩
  rw [hx, hpos] at hpk
  have HPK := Lib.hid hpk
  have HXX := Lib.hid hx
  rw [hx]
  unfold spZ0 at hw1
  clear H b1 k1 hx H1 hpk hpos hf hH hn h0
  go_enter Try.func14, Try.ntmps14
  go_upto_region 1 with fail
  (try rw [hw1])
  clear hw1
  go_upto_region 2 with (first
    | (go_at_call 32; (with_reducible refine HPK.out.mono ?_); rintro e w3 ⟨rfl, hb⟩; have HB3 := Lib.hid hb; obtain ⟨w4, hw4⟩ : ∃ z, (w3.alloc (.cells #[.int .u64 0, .int .u64 0, .int .i64 0] 35)).setCells w3.heap.size 0 (spC x).toList = z := ⟨_, rfl⟩; have SI : (Instr.storeAt 35 (.pointer (some ⟨w3.heap.size, 0, none⟩)) (spV x)).run Try.prog _ = _ := spB_put w3 x; rw [hw4] at SI; have HY4 : Hid (Blk w4 w3.heap.size 35 (spC x)) := (by show Blk _ _ _ _; rw [← hw4]; exact spB_blk w3 x); have HB4 : Hid (Below w1.heap.size w1 w4) := (by show Below _ _ _; rw [← hw4]; exact HB3.out.trans ((put_bel _ _ _).mono HB3.out.size)); clear hb hw4)
    | refine wpList_storeE SI _ _ rfl rfl rfl rfl ?_)
  clear SI HPK
  have HH4 : Hid (HpAt w4 h) := HH1.out.tch (Tch.of_below (S := fun _ => False) HB4.out) (fun _ _ q => q)
  have HPOP := Lib.hid (hp_pop tot_ahB h HF.out w4 HH4.out HHP.out HLT.out.1 HLT.out.2)
  go_upto_region 4 with (go_at_call 29; (with_reducible refine HPOP.out.mono ?_); rintro e w7 ⟨rfl, K, hat, hpm, hhp, hte⟩; replace hat := Lib.hid hat; replace hpm := Lib.hid hpm; replace hhp := Lib.hid hhp; replace hte := Lib.hid hte)
  clear HPOP
  have HX7 : Hid (Blk w7 w3.heap.size 35 (spC x)) := HY4.out.tch hte.out (fun q => by
    have h1 := HFT.out _ q
    have h2 := HB1.out.size
    have h3 := HB3.out.size
    omega)
  have k7 : Blk w7 w.heap.size 35 spZ0 := (HK1.out.below HB4.out HK1.out.lt).tch hte.out HRF.out
  have L1 : (Instr.loadAt 35 (.pointer (some ⟨w3.heap.size, 0, none⟩))).run Try.prog w7 = .ok (spV x) w7 := spB_load HX7.out
  have SR : (Instr.storeAt 35 (.pointer (some ⟨w.heap.size, 0, none⟩)) (spV x)).run Try.prog w7 = .ok () _ := row_store k7 (spC x) rfl spotTK (by simp [spC, Value.oneCell'])
  obtain ⟨V, hV⟩ : ∃ V, w7.setCells w.heap.size 0 (spC x).toList = V := ⟨_, rfl⟩
  rw [hV] at SR
  have HV : Hid (Blk V w.heap.size 35 (spC x)) := by show Blk _ _ _ _; rw [← hV]; exact k7.put _ rfl
  have hTV : Tch (fun k => k = w.heap.size) w7 V := by rw [← hV]; exact Tch.setCells (S := fun k => k = w.heap.size) rfl _ _ w7 (Tch.refl _ w7)
  have HHV : Hid (HpAt V { h with L := K }) := hat.out.tch hTV (fun k q e => by subst e; exact HRF.out q)
  have HTV : Hid (Tch (foot h) w V) := ((Tch.of_below (HB1.out.trans (HB4.out.mono HB1.out.size))).trans (S' := foot h) hte.out (fun k q => .inl q)).trans hTV (fun k q => .inr (Nat.le_of_eq q.symm))
  clear k7 hV hTV
  go_wp2_with (first | refine wpList_loadE L1 _ rfl rfl rfl ?_ | refine wpList_storeE SR _ _ rfl rfl rfl rfl ?_)
  refine bodyPost_ret (v := .tuple #[spV x, .bool true]) ?_ rfl ⟨K, rfl, HHV.out, by have := hpm.out; rw [HXX.out] at this; exact this, hhp.out, HTV.out⟩
  exact results_row11K (P := Try.prog) Try.results14 _ rfl HV.out Try.underlying35 rfl spotTK
end Go.Proofs.Ytpcbfoddlpgdjaa
