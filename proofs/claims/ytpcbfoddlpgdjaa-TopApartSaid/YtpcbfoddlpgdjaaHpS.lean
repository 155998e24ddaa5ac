/- Spots of items, lists alike, what is asked first (begins4). Printed by genHpS.py out of HpS.frame. -/
import Derived.Test.YtpcbfoddlpgdjaaHpH
namespace Go.Proofs.Ytpcbfoddlpgdjaa
open Go.RowKit
/-- Items' spots around a vector, by their places. -/
def spI (q : IS) (its : List ItX) : List Sp := its.mapIdx fun i d => ⟨dX q d, d.id, ((i : Nat) : Int)⟩
theorem spI_len (q : IS) (its : List ItX) : (spI q its).length = its.length := by simp [spI]
theorem spI_at {q : IS} {its : List ItX} {k : Nat} {d : ItX} (h : its[k]? = some d) : (spI q its)[k]? = some ⟨dX q d, d.id, ((k : Nat) : Int)⟩ := by
  unfold spI
  rw [List.getElem?_mapIdx, h]
  rfl
theorem own_keepS {w w' : World} {A : Option Addr} {n c B : Nat} {l : List Sp} (h : w.ownsRow B 35 3 (.slice A n c) n (flatS l)) (hb : Below w.heap.size w w') : w'.ownsRow B 35 3 (.slice A n c) n (flatS l) := ownsRow_tch h (Tch.of_below hb : Tch (fun _ => False) _ _) (fun _ _ q => q)
set_option maxRecDepth 100000 in
set_option maxHeartbeats 8000000 in
theorem top_spots (q : IS) (A : Option Addr) (n c : Nat) (its : List ItX) (w : World) (hq : q.Vec w w.heap.size) (hI : Its w w.heap.size A n its) (hn : n ≤ 1048576) :
    Calls Try.prog 8 #[q.v, .slice A n c] w (fun e w' => ∃ A' c', e = .returned (.slice A' n c') ∧ w'.ownsRow w.heap.size 35 3 (.slice A' n c') n (flatS (spI q its)) ∧ Below w.heap.size w w') := by
  have HQ := Lib.hid hq
  have HI := Lib.hid hI
  have HN := Lib.hid hn
  have HIL := Lib.hid hI.len
  obtain ⟨ls, hls⟩ : ∃ ls, spI q its = ls := ⟨_, rfl⟩
  have HLS := Lib.hid hls
  have HLL : Hid (ls.length = n) := by show _ = _; rw [← hls, spI_len, hI.len]
  rw [hls]
  clear hq hI hls
  go_enter Try.func8, Try.ntmps8
  go_wp2_with fail
  go_loopw [10, 5] (fun i v wr => ∃ (k : Nat) (A5 : Option Addr) (c5 : Nat), k ≤ n ∧ i = .int .i64 (k : Nat) ∧ v = .slice A5 k c5 ∧ Hid (wr.ownsRow w.heap.size 35 3 (.slice A5 k c5) k (flatS (ls.take k))) ∧ Hid (Below w.heap.size w wr)) (fun i _ _ => n - (intOf i).toNat)
  case atStart => exact ⟨0, none, 0, Nat.zero_le _, rfl, rfl, World.ownsRow_nil _ _ _ _, Below.refl _ _⟩
  case round =>
    obtain ⟨k, A5, c5, hk, rfl, rfl, HO, HB⟩ := hrel
    by_cases hlt : k < n
    · obtain ⟨b, o, d, rfl, hbl, hd, hv, hr⟩ := (HI.out.below HB.out).at_ hlt
      obtain ⟨x, hx⟩ : ∃ x : Sp, (⟨dX q d, d.id, ((k : Nat) : Int)⟩ : Sp) = x := ⟨_, rfl⟩
      have HX : Hid (ls.take (k + 1) = ls.take k ++ [x]) := take_stepX (by rw [← HLS.out, spI_at hd, hx])
      have HXX := Lib.hid hx
      obtain ⟨xb, hxb⟩ : ∃ xb, wr.heap.size = xb := ⟨_, rfl⟩
      obtain ⟨W4, hW4⟩ : ∃ W4, (wr.alloc (.cells itx0 45)).setCells wr.heap.size 0 d.cells.toList = W4 := ⟨_, rfl⟩
      have SI := itx_put wr d
      have bx := itx_blk wr d
      have b4 := put_bel wr (.cells itx0 45) d.cells.toList
      have LI := itx_load hr
      rw [hW4] at SI bx b4
      have HI4 : Hid (Blk W4 xb 45 d.cells) := by show Blk _ _ _ _; rw [← hxb]; exact bx
      have HB4 : Hid (Below w.heap.size w W4) := HB.out.trans (b4.mono HB.out.size)
      have HNX : Hid (¬ some xb = (Value.slice A5 k c5).ownBlock) := fun q => by
        have h1 := (HO.out.lt xb q.symm).2
        omega
      have HO4 : Hid (W4.ownsRow w.heap.size 35 3 (.slice A5 k c5) k (flatS (ls.take k))) := own_keepS HO.out b4
      have HD : Hid (Calls Try.prog 25 #[q.v, d.vec.v] W4.drew fun e w' => e = .returned (.int .u64 (dX q d)) ∧ W4.drew = w') :=
        dist_c q d.vec W4.drew w.heap.size (HQ.out.below (Below.mono (below_drewN HB4.out 1) (Nat.le_refl _))) ((HI.out.2 d (List.mem_of_getElem? hd)).below (Below.mono (below_drewN HB4.out 1) (Nat.le_refl _)))
      clear hd hr hv b4 bx hW4 hbl hx
      have HXB := Lib.hid hxb
      rw [hxb] at SI
      unfold itx0 at SI
      go_upto_region 5 with (first | refine wpList_loadE LI _ rfl rfl rfl ?_ | refine wpList_storeE SI _ _ rfl rfl rfl rfl ?_)
      clear LI SI
      (try rw [HXB.out])
      clear hxb
      refine wp_region_held_drew (S := fun w' => Tch (fun j => some j = (Value.slice A5 k c5).ownBlock) W4 w') (by kernel_rfl) ((Tch.refl _ W4).drewN 1) (fun hH => ?_)
      refine wpAnyH_take (i := 0) (v := .slice A5 k c5) rfl (by kernel_rfl) (by kernel_rfl) (by kernel_rfl) (fun _ _ _ h => h) (.inl ⟨by rfl, fun _ _ => by kernel_rfl⟩) hH ?_
      (try simp only [List.getElem_toArray, List.getElem_cons_zero, Act.put, List.setIfInBounds_toArray, List.set_cons_zero, List.set_cons_succ])
      refine wpAnyH_take (i := 1) (v := q.v) rfl (by kernel_rfl) (by kernel_rfl) (by kernel_rfl) (fun _ _ _ h => h) (.inl ⟨by rfl, fun _ _ => by kernel_rfl⟩) hH ?_
      (try simp only [List.getElem_toArray, List.getElem_cons_zero, List.getElem_cons_succ, Act.put, List.setIfInBounds_toArray, List.set_cons_zero, List.set_cons_succ])
      refine wpAnyH_take (i := 2) (v := .pointer (some ⟨xb, 1, none⟩)) rfl (by kernel_rfl) (by kernel_rfl) (by kernel_rfl) (fun _ _ _ h => h) (.inl ⟨by rfl, fun _ _ => by kernel_rfl⟩) hH ?_
      (try simp only [List.getElem_toArray, List.getElem_cons_zero, List.getElem_cons_succ, Act.put, List.setIfInBounds_toArray, List.set_cons_zero, List.set_cons_succ])
      refine wpAnyH_take (i := 3) (v := d.vec.v) rfl (by kernel_rfl) (by kernel_rfl) (by kernel_rfl) (fun _ _ _ h => h) (yieldsIf_loadP (by rfl) _ rfl rfl (fun _ s => load_i32sK ((HI4.out.tch s HNX.out).cell 1))) hH ?_
      (try simp only [List.getElem_toArray, List.getElem_cons_zero, List.getElem_cons_succ, Act.put, List.setIfInBounds_toArray, List.set_cons_zero, List.set_cons_succ])
      refine wpAnyH_take (i := 5) (v := .pointer (some ⟨xb, 0, none⟩)) rfl (by kernel_rfl) (by kernel_rfl) (by kernel_rfl) (fun _ _ _ h => h) (.inl ⟨by rfl, fun _ _ => by kernel_rfl⟩) hH ?_
      (try simp only [List.getElem_toArray, List.getElem_cons_zero, List.getElem_cons_succ, Act.put, List.setIfInBounds_toArray, List.set_cons_zero, List.set_cons_succ])
      refine wpAnyH_take (i := 6) (v := .int .u64 d.id) rfl (by kernel_rfl) (by kernel_rfl) (by kernel_rfl) (fun _ _ _ h => h) (yieldsIf_loadP (by rfl) _ rfl rfl (fun _ s => load_u64K ((HI4.out.tch s HNX.out).cell 0))) hH ?_
      (try simp only [List.getElem_toArray, List.getElem_cons_zero, List.getElem_cons_succ, Act.put, List.setIfInBounds_toArray, List.set_cons_zero, List.set_cons_succ])
      refine wpAnyH_take (i := 8) (v := .int .i64 ((k : Nat) : Int)) rfl (by kernel_rfl) (by kernel_rfl) (by kernel_rfl) (fun _ _ _ h => h) (.inl ⟨by rfl, fun _ _ => by kernel_rfl⟩) hH ?_
      (try simp only [List.getElem_toArray, List.getElem_cons_zero, List.getElem_cons_succ, Act.put, List.setIfInBounds_toArray, List.set_cons_zero, List.set_cons_succ])
      refine wpAnyH_call 4 25 #[q.v, d.vec.v] _ (by kernel_rfl) (by rfl) (by kernel_rfl) (by kernel_rfl) HD.out ?_
      rintro e Z1 ⟨rfl, rfl⟩
      refine ⟨_, rfl, hH, ?_⟩
      (try simp only [List.getElem_toArray, List.getElem_cons_zero, List.getElem_cons_succ, Act.put, List.setIfInBounds_toArray, List.set_cons_zero, List.set_cons_succ])
      refine wpAnyH_take (i := 7) (v := hitV x) rfl (by kernel_rfl) (by kernel_rfl) (by kernel_rfl) (fun _ _ _ h => h) (.inl ⟨by rfl, fun _ _ => by rw [← HXX.out]; kernel_rfl⟩) hH ?_
      (try simp only [List.getElem_toArray, List.getElem_cons_zero, List.getElem_cons_succ, Act.put, List.setIfInBounds_toArray, List.set_cons_zero, List.set_cons_succ])
      refine wpAnyH_take (i := 9) (v := spV x) rfl (by kernel_rfl) (by kernel_rfl) (by kernel_rfl) (fun _ _ _ h => h) (.inl ⟨by rfl, fun _ _ => by rw [← HXX.out]; kernel_rfl⟩) hH ?_
      (try simp only [List.getElem_toArray, List.getElem_cons_zero, List.getElem_cons_succ, Act.put, List.setIfInBounds_toArray, List.set_cons_zero, List.set_cons_succ])
      refine wpAnyH_makeK 10 (.slice (some ⟨W4.drew.heap.size, 0, none⟩) 1 1) (by kernel_rfl) (by rfl) (by kernel_rfl) (exec_spotK (x := x) (by rfl) (by kernel_rfl) W4.drew) (hH.alloc _) ?_
      (try simp only [List.getElem_toArray, List.getElem_cons_zero, List.getElem_cons_succ, Act.put, List.setIfInBounds_toArray, List.set_cons_zero, List.set_cons_succ])
      refine wpAnyH_push1 11 (by kernel_rfl) (by rfl) (.tmp 15) (.tmp 25) 25 35 3 24 _ (by rfl) Try.underlying25 info_spotK rfl (by decide) W4.drew w.heap.size (.slice A5 k c5) k (flatS (ls.take k)) (spC x) rfl (by kernel_rfl) rfl (ownsRow_tch HO4.out ((Tch.refl (fun _ => False) W4).drewN 1) (fun _ _ q => q)) rfl rfl (fun u hu => by rcases (by simpa [spC] using hu : u = _ ∨ u = _ ∨ u = _) with rfl | rfl | rfl <;> rfl) (by have := HN.out; omega) (by decide) HB4.out.size ?_
      intro g2 c4 Z2 ho hgr hb2 hat
      have hH2 := hH.trans (grownBy_tch hgr) (fun k q => .inl q)
      refine ⟨hH2, ?_⟩
      replace ho := Lib.hid ho
      replace hb2 := Lib.hid hb2
      clear hgr hat
      (try simp only [List.getElem_toArray, List.getElem_cons_zero, List.getElem_cons_succ, Act.put, List.setIfInBounds_toArray, List.set_cons_zero, List.set_cons_succ])
      refine wpAnyH_take (i := 12) (v := .slice (some ⟨g2, 0, none⟩) (k + 1) c4) rfl (by kernel_rfl) (by kernel_rfl) (by kernel_rfl) (fun _ _ _ h => h) (.inl ⟨by rfl, fun _ _ => by kernel_rfl⟩) hH2 ?_
      (try simp only [List.getElem_toArray, List.getElem_cons_zero, List.getElem_cons_succ, Act.put, List.setIfInBounds_toArray, List.set_cons_zero, List.set_cons_succ])
      refine wpAnyH_done (by kernel_rfl) ?_ _
      go_wp2_with fail
      go_roundw
      case rel => exact ⟨k + 1, some ⟨g2, 0, none⟩, c4, by omega, by go_num, rfl, by show World.ownsRow _ _ _ _ _ _ _; rw [HX.out, flatS_appC]; simpa [flatS, spL, spC] using ho.out, (Below.trans (b := W4.drew) (below_drewN HB4.out 1) hb2.out)⟩
      case measure => simp [intOf]; omega
    · obtain rfl : k = n := by omega
      go_wp2_with fail
      go_ret
      have h1 := HO.out
      rw [List.take_of_length_le (by rw [HLL.out]; exact Nat.le_refl _)] at h1
      exact ⟨A5, c5, rfl, h1, HB.out⟩
set_option maxRecDepth 100000 in
theorem yieldsIf_neqS {ops : Array Oper} {S : World → Prop} {o : Oper} {a : Act} {t' : TypeId} {z : Sp} (hw : Region.wanted o (yielded ops a.tmps) = true) (x y : Operand) (ho : o.op = .binOp .neq 35 x y t') (hx : a.eval x = spV z) (hy : a.eval y = spV z) : YieldsIf Try.prog ops S o (.bool false) a := by
  refine .inl ⟨hw, fun w _ => ?_⟩
  generalize a.eval = ev at hx hy
  unfold execOp
  simp only [ho]
  unfold spV at hx hy
  simp [go_sem, hx, hy, Try.underlying35]
set_option maxRecDepth 100000 in
theorem SpAt.load {w : World} {B b o n k : Nat} {l : List Sp} (h : SpAt w B (some ⟨b, o, none⟩) n l) (hk : k < n) : (Instr.loadAt 35 (.pointer (some ⟨b, o + k * 3, none⟩))).run Try.prog w = .ok (spV (sg l k)) w := by
  obtain ⟨b', o', cs, e, _, hc, _, hr⟩ := Rs.at_ h hk
  injection e with e; injection e with e1 e2 _
  subst e1 e2
  rw [List.getElem?_map] at hc
  obtain ⟨x, hx, rfl⟩ := Option.map_eq_some_iff.1 hc
  have : sg l k = x := by unfold sg; rw [List.getD_eq_getElem?_getD, hx]; rfl
  rw [this]
  exact sp_loadB hr
set_option maxRecDepth 100000 in
set_option maxHeartbeats 4000000 in
/-- Two slices that hold the same spots. -/
theorem top_alike (A A' : Option Addr) (n c c' : Nat) (l : List Sp) (w : World) (h1 : SpAt w w.heap.size A n l) (h2 : SpAt w w.heap.size A' n l) (hn : n ≤ 1048576) :
    Calls Try.prog 15 #[.slice A n c, .slice A' n c'] w (fun e w' => e = .returned (.bool true) ∧ Below w.heap.size w w') := by
  have H1 := Lib.hid h1
  have H2 := Lib.hid h2
  have HN := Lib.hid hn
  clear h1 h2
  go_enter Try.func15, Try.ntmps15
  go_wp2_with fail
  go_loopw [13] (fun i wr => ∃ k : Nat, k ≤ n ∧ i = .int .i64 (k : Nat) ∧ Hid (Below w.heap.size w wr)) (fun i _ => n - (intOf i).toNat)
  case atStart => exact ⟨0, Nat.zero_le _, rfl, Below.refl _ _⟩
  case round =>
    obtain ⟨k, hk, rfl, HB⟩ := hrel
    by_cases hlt : k < n
    · obtain ⟨b, o, rfl⟩ : ∃ b o, A = some ⟨b, o, none⟩ := by obtain ⟨b, o, _, e, _⟩ := Rs.at_ H1.out hlt; exact ⟨b, o, e⟩
      obtain ⟨b', o', rfl⟩ : ∃ b o, A' = some ⟨b, o, none⟩ := by obtain ⟨b, o, _, e, _⟩ := Rs.at_ H2.out hlt; exact ⟨b, o, e⟩
      have HLT := Lib.hid hlt
      have hlt' := hlt
      go_upto_region 6 with fail
      refine wp_region_held_drew (S := fun w' => Below wr.heap.size wr w') (by kernel_rfl) (below_drewN (Below.refl _ _) 1) (fun hH => ?_)
      refine wpAnyH_take (i := 0) (v := .slice (some ⟨b, o, none⟩) n c) rfl (by kernel_rfl) (by kernel_rfl) (by kernel_rfl) (fun _ _ _ h => h) (.inl ⟨by rfl, fun _ _ => by kernel_rfl⟩) hH ?_
      (try simp only [List.getElem_toArray, List.getElem_cons_zero, Act.put, List.setIfInBounds_toArray, List.set_cons_zero, List.set_cons_succ])
      refine wpAnyH_take (i := 1) (v := .int .i64 ((k : Nat) : Int)) rfl (by kernel_rfl) (by kernel_rfl) (by kernel_rfl) (fun _ _ _ h => h) (.inl ⟨by rfl, fun _ _ => by kernel_rfl⟩) hH ?_
      (try simp only [List.getElem_toArray, List.getElem_cons_zero, List.getElem_cons_succ, Act.put, List.setIfInBounds_toArray, List.set_cons_zero, List.set_cons_succ])
      refine wpAnyH_take (i := 2) (v := .pointer (some ⟨b, o + k * 3, none⟩)) rfl (by kernel_rfl) (by kernel_rfl) (by kernel_rfl) (fun _ _ _ h => h) (yieldsIf_indexS Try.underlying25 sizeSpE (by rfl) _ _ rfl rfl rfl HLT.out) hH ?_
      (try simp only [List.getElem_toArray, List.getElem_cons_zero, List.getElem_cons_succ, Act.put, List.setIfInBounds_toArray, List.set_cons_zero, List.set_cons_succ])
      refine wpAnyH_take (i := 3) (v := spV (sg l k)) rfl (by kernel_rfl) (by kernel_rfl) (by kernel_rfl) (fun _ _ _ h => h) (yieldsIf_loadP (by rfl) _ rfl rfl (fun _ s => SpAt.load (SpAt.below H1.out (HB.out.trans (s.mono HB.out.size))) HLT.out)) hH ?_
      (try simp only [List.getElem_toArray, List.getElem_cons_zero, List.getElem_cons_succ, Act.put, List.setIfInBounds_toArray, List.set_cons_zero, List.set_cons_succ])
      refine wpAnyH_take (i := 4) (v := .slice (some ⟨b', o', none⟩) n c') rfl (by kernel_rfl) (by kernel_rfl) (by kernel_rfl) (fun _ _ _ h => h) (.inl ⟨by rfl, fun _ _ => by kernel_rfl⟩) hH ?_
      (try simp only [List.getElem_toArray, List.getElem_cons_zero, List.getElem_cons_succ, Act.put, List.setIfInBounds_toArray, List.set_cons_zero, List.set_cons_succ])
      refine wpAnyH_take (i := 5) (v := .int .i64 ((k : Nat) : Int)) rfl (by kernel_rfl) (by kernel_rfl) (by kernel_rfl) (fun _ _ _ h => h) (.inl ⟨by rfl, fun _ _ => by kernel_rfl⟩) hH ?_
      (try simp only [List.getElem_toArray, List.getElem_cons_zero, List.getElem_cons_succ, Act.put, List.setIfInBounds_toArray, List.set_cons_zero, List.set_cons_succ])
      refine wpAnyH_take (i := 6) (v := .pointer (some ⟨b', o' + k * 3, none⟩)) rfl (by kernel_rfl) (by kernel_rfl) (by kernel_rfl) (fun _ _ _ h => h) (yieldsIf_indexS Try.underlying25 sizeSpE (by rfl) _ _ rfl rfl rfl HLT.out) hH ?_
      (try simp only [List.getElem_toArray, List.getElem_cons_zero, List.getElem_cons_succ, Act.put, List.setIfInBounds_toArray, List.set_cons_zero, List.set_cons_succ])
      refine wpAnyH_take (i := 7) (v := spV (sg l k)) rfl (by kernel_rfl) (by kernel_rfl) (by kernel_rfl) (fun _ _ _ h => h) (yieldsIf_loadP (by rfl) _ rfl rfl (fun _ s => SpAt.load (SpAt.below H2.out (HB.out.trans (s.mono HB.out.size))) HLT.out)) hH ?_
      (try simp only [List.getElem_toArray, List.getElem_cons_zero, List.getElem_cons_succ, Act.put, List.setIfInBounds_toArray, List.set_cons_zero, List.set_cons_succ])
      refine wpAnyH_take (i := 8) (v := .bool false) rfl (by kernel_rfl) (by kernel_rfl) (by kernel_rfl) (fun _ _ _ h => h) (yieldsIf_neqS (by rfl) _ _ rfl rfl rfl) hH ?_
      (try simp only [List.getElem_toArray, List.getElem_cons_zero, List.getElem_cons_succ, Act.put, List.setIfInBounds_toArray, List.set_cons_zero, List.set_cons_succ])
      refine wpAnyH_done (by kernel_rfl) ?_ _
      go_wp2_with fail
      go_roundw
      case rel => exact ⟨k + 1, by omega, by go_num, below_drewN HB.out 1⟩
      case measure => simp [intOf]; omega
    · obtain rfl : k = n := by omega
      go_wp2_with fail
      go_ret
      exact ⟨rfl, HB.out⟩
set_option maxRecDepth 100000 in
set_option maxHeartbeats 4000000 in
theorem begins4 (w : World) : Calls Try.prog 7 #[] w fun e w' => e = .returned (.bool true) ∧ Below w.heap.size w w' := by
  have HN := Lib.hid (b_newE 1 w)
  have e1 : (min (max (1 : Int) 0) 4096) = ((1 : Nat) : Int) := by decide
  rw [e1] at HN
  go_enter Try.func7, Try.ntmps7
  go_upto_region 2 with (go_at_call 9; (with_reducible refine HN.out.mono ?_); rintro e w1 ⟨rfl, hw1⟩)
  have b1 : Below w.heap.size w w1 := by rw [← hw1]; exact bel_box _ _
  obtain ⟨h0, q1, q2, q3, q4, q5, H1⟩ := best_new 1 w w1 hw1
  have ho := b_offerG 1 (by decide) h0 [] ⟨0, 0, 2⟩ w1 H1 q2 q3 (by rw [q5]; exact Hp.nil _) (by rw [q5]; exact BI.start 1)
  rw [q1] at ho
  have HO := Lib.hid ho
  have HB1 := Lib.hid b1
  have HQ := Lib.hid (show h0.hb = w.heap.size ∧ h0.f = 26 ∧ h0.rest = [.int .i64 ((1 : Nat) : Int)] ∧ h0.A = none ∧ h0.L = [] from ⟨q1, q2, q3, q4, q5⟩)
  clear b1 H1 ho hw1 HN q1 q2 q3 q4 q5 e1
  unfold spV at HO
  go_wp2_with (first
    | (go_at_call 11; (with_reducible refine HO.out.mono ?_); rintro e w2 ⟨r, h1, rfl, hat, p1, p2, p3, hhp, hbi, hte, hfr, hr⟩; clear HO; obtain rfl : r = true := hr ⟨Nat.one_pos, .inl (by rw [HQ.out.2.2.2.2]; exact Nat.one_pos)⟩; have hL : h1.L = [⟨0, 0, 2⟩] := (by obtain ⟨R, t1, t2, _⟩ := hbi; have t3 := t1.length_eq; have hR : R = [] := (by rw [List.length_append, t2] at t3; refine List.eq_nil_of_length_eq_zero ?_; simp at t3; rw [t3]; rfl); subst hR; rw [List.append_nil] at t1; simpa using t1); have ho2 := b_offerG 1 (by decide) h1 _ ⟨0, 0, 1⟩ w2 hat (p2.trans HQ.out.2.1) (p3.trans HQ.out.2.2.1) hhp hbi; rw [p1.trans HQ.out.1] at ho2; have HO2 := Lib.hid ho2; have HL1 := Lib.hid hL; have HB2 : Hid (Below w.heap.size w w2) := HB1.out.trans (hte.below HB1.out.size (fun k q => by rcases q with q | q; exact Nat.le_of_eq (by rw [q, HQ.out.1]); rw [HQ.out.2.2.2.1] at q; cases q)); have HF1 : Hid (∀ k, foot h1 k → w.heap.size ≤ k) := (by intro k hk; rcases hfr k hk with q | q; rcases q with q | q; exact Nat.le_of_eq (by rw [q, HQ.out.1]); rw [HQ.out.2.2.2.1] at q; cases q; exact Nat.le_trans HB1.out.size q); clear hat hhp hbi hte hfr hr ho2 hL p1 p2 p3; unfold spV at HO2)
    | (go_at_call 11; (with_reducible refine HO2.out.mono ?_); rintro e w3 ⟨r, h2, rfl, hat, p1, p2, p3, hhp, hbi, hte, hfr, hr⟩; clear HO2; obtain rfl : r = true := hr ⟨Nat.one_pos, .inr (by rw [HL1.out]; decide +kernel)⟩; have HB3 : Hid (Below w.heap.size w w3) := HB2.out.trans (hte.below HB2.out.size (fun k q => HF1.out k q)); have hsp := rank_spot ⟨0, 0, 1⟩ ⟨0, 0, 2⟩ w3; rw [show ahB ⟨0, 0, 1⟩ ⟨0, 0, 2⟩ = true by decide +kernel] at hsp; unfold spV at hsp; have HSP := Lib.hid hsp; clear hat hhp hbi hte hfr hr hsp p1 p2 p3)
    | (go_at_call 21; (with_reducible refine HSP.out.mono ?_); rintro e w4 ⟨rfl, g4⟩; have HB4 := Lib.hid (HB3.out.trans (g4.below.mono HB3.out.size)); clear g4))
  go_ret
  exact ⟨rfl, HB4.out⟩
end Go.Proofs.Ytpcbfoddlpgdjaa
