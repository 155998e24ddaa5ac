/- A slot's spot, for a vector. Printed by genRkW.py. -/
import Derived.Test.YtpbjndjbpihfmaaRkI
import Derived.Test.YtpbjndjbpihfmaaPlA
import Derived.Deep.CutRange
namespace Go.Proofs.Ytpbjndjbpihfmaa
open Go.RowKit
theorem range_i32K {n : Int} (h : (Lit.int .i32 n).wf = true) : -2147483648 ≤ n ∧ n ≤ 2147483647 := by
  simp [Lit.wf, IntKind.min, IntKind.max, IntKind.signed, IntKind.bits] at h
  exact ⟨by omega, by omega⟩
def ndI (d : ND) : ItX := ⟨d.id, d.vec, d.tags⟩
def spN (q : IS) (ns : List ND) (k : Nat) : Sp := ⟨(distE q.xs (nAt ns k).vec.xs : Nat), (nAt ns k).id, k⟩
theorem IS.At.vec {w : World} {B : Nat} {l : IS} (h : l.At w B .i32) : l.Vec w B := ⟨h.1, by have := h.2.1; omega, h.2.2.1, fun z hz => range_i32K (h.2.2.2 z hz)⟩
def spZ : Array Value := #[.int .u64 0, .int .u64 0, .int .i64 0]
theorem node_item {w : World} {b o : Nat} {d : ND} (h : w.rangeAt b o d.cells.toList) : (Instr.loadAt 50 (.pointer (some ⟨b, o, none⟩))).run Try.prog w = .ok (.agg (ndI d).cells) w :=
  range_load (xs := (ndI d).cells) (fun j v hv => h j v (by
    have hj : j < 3 := (List.getElem?_eq_some_iff.1 hv).1
    rcases (by omega : j = 0 ∨ j = 1 ∨ j = 2) with rfl | rfl | rfl <;> exact hv)) Try.underlying50 rfl itTX
set_option maxRecDepth 100000 in
set_option maxHeartbeats 4000000 in
theorem walk_spot (A : Option Addr) (n c : Nat) (ns : List ND) (en tp : Int) (q : IS) (k : Nat) (w : World) (hg : PgAt w w.heap.size A n c ns) (hq : q.Vec w w.heap.size) (hk : k < n) :
    Calls Try.prog 14 #[.agg (pgL A n c en tp), q.v, .int .i64 (k : Nat)] w (fun e w' => e = .returned (spV (spN q ns k)) ∧ Below w.heap.size w w') := by
  obtain ⟨w1, hw1⟩ : ∃ x, w.alloc (.cells (pgL A n c en tp) 36) = x := ⟨_, rfl⟩
  obtain ⟨C1, b1⟩ := box_plane hw1
  obtain ⟨w2, hw2⟩ : ∃ x, w1.alloc (.cells spZ 44) = x := ⟨_, rfl⟩
  have e1 : w1.heap.size = w.heap.size + 1 := by rw [← hw1]; simp only [World.alloc, Array.size_push]
  have e2 : w2.heap.size = w.heap.size + 1 + 1 := by rw [← hw2, ← e1]; simp only [World.alloc, Array.size_push]
  have b2 : Below w1.heap.size w1 w2 := by rw [← hw2]; exact bel_box _ _
  have k2 : Blk w2 w1.heap.size 44 spZ := by rw [← hw2]; exact Blk.new _ _ _
  obtain ⟨b, o, d, rfl, hb, hd, hr, had⟩ := hg.node hk
  obtain ⟨x, hx⟩ : ∃ x, spN q ns k = x := ⟨_, rfl⟩
  have hxx : x = ⟨(distE q.xs d.vec.xs : Nat), d.id, k⟩ := by rw [← hx]; unfold spN; rw [nAt_of hd]
  rw [hx]
  clear hx
  obtain ⟨W3, hW3⟩ : ∃ x, w2.alloc (.cells itx0 50) = x := ⟨_, rfl⟩
  obtain ⟨W4, hW4⟩ : ∃ W4, W3.setCells w2.heap.size 0 (ndI d).cells.toList = W4 := ⟨_, rfl⟩
  have SI := itx_put w2 (ndI d)
  have bx := itx_blk w2 (ndI d)
  have b4 := put_bel w2 (.cells itx0 50) (ndI d).cells.toList
  rw [hW3] at SI bx b4
  rw [hW4] at SI bx b4
  have b24 : Below w.heap.size w W4 := b1.trans ((b2.mono b1.size).trans (b4.mono (Nat.le_trans b1.size b2.size)))
  have b3 : Below w2.heap.size w2 W3 := by rw [← hW3]; exact bel_box _ _
  have LI := node_item (w := W3) (fun j v hv => by rw [b3.cell (p := ⟨b, _, none⟩) (Nat.lt_of_lt_of_le hb (Nat.le_trans b1.size b2.size)), b2.cell (p := ⟨b, _, none⟩) (Nat.lt_of_lt_of_le hb b1.size), b1.cell (p := ⟨b, _, none⟩) hb]; exact hr j v hv)
  have c0 : W3.cell? ⟨w.heap.size, 0, none⟩ = some (.slice (some ⟨b, o, none⟩) n c) := by
    rw [b3.cell (p := ⟨w.heap.size, 0, none⟩) (by show w.heap.size < _; omega), b2.cell (p := ⟨w.heap.size, 0, none⟩) (by show w.heap.size < _; omega)]; exact C1.cell 0
  have k4 : Blk W4.drew (w.heap.size + 1) 44 spZ := by
    rw [← e1]
    exact k2.below (w' := W4.drew) (below_drewN b4 1) (show w1.heap.size < w2.heap.size by omega)
  have SR := row_store k4 (spC x) rfl spotTK (by simp [spC, Value.oneCell'])
  obtain ⟨V, hV⟩ : ∃ V, W4.drew.setCells (w.heap.size + 1) 0 (spC x).toList = V := ⟨_, rfl⟩
  rw [hV] at SR
  have HTT : Hid (Tch (fun k => k = w.heap.size + 1) W4 V) := by show Tch _ _ _; rw [← hV]; exact Tch.setCells (S := fun k => k = w.heap.size + 1) rfl _ _ _ ((Tch.refl _ W4).drewN 1)
  have HV : Hid (Blk V (w.heap.size + 1) 44 (spC x)) := by show Blk _ _ _ _; rw [← hV]; exact k4.put _ rfl
  have HBB : Hid (Below w.heap.size w V) := b24.trans (HTT.out.below b24.size (fun k hk => by omega))
  have HI : Hid (Blk W4 (w.heap.size + 1 + 1) 50 (ndI d).cells) := by show Blk _ _ _ _; rw [← e2]; exact bx
  have HNE : Hid (¬ (w.heap.size + 1 + 1 = w.heap.size + 1)) := by show ¬ _; omega
  have HD : Hid (∀ W' : World, Tch (fun k => k = w.heap.size + 1) W4 W' → Calls Try.prog 23 #[q.v, d.vec.v] W' fun e w' => e = .returned (.int .u64 (distE q.xs d.vec.xs : Nat)) ∧ W' = w') := by
    intro W' hT
    have hb' : Below w.heap.size w W' := b24.trans (hT.below b24.size (fun k hk => by omega))
    exact dist_c q d.vec W' w.heap.size (hq.below hb') (had.1.vec.below hb')
  have HE1 := Lib.hid e1
  have HE2 := Lib.hid e2
  have tl : decide ((k : Int) < (n : Int)) = true := decide_eq_true (by omega)
  have tg : decide ((k : Int) ≥ 0) = true := decide_eq_true (by omega)
  rw [e2] at SI
  clear hd hr had hg hq k2 b2 b1 b3 b4 b24 bx hW4 hV C1 hb k4
  unfold pgL at hw1 ⊢
  unfold spZ at hw2
  unfold itx0 at hW3
  go_enter Try.func14, Try.ntmps14
  go_upto_region 1 with fail
  (try simp only [hw1])
  (try rw [HE1.out])
  (try rw [hw2])
  clear hw1 hw2
  go_upto_region 2 with fail
  (try rw [HE2.out])
  (try rw [hW3])
  clear hW3 e1 e2
  go_upto_region 4 with (first | refine wpList_loadE LI _ rfl rfl rfl ?_ | refine wpList_storeE SI _ _ rfl rfl rfl rfl ?_)
  clear LI SI c0
  subst hxx
  refine wp_region_held_drew (S := fun w' => Tch (fun k => k = w.heap.size + 1) W4 w') (by kernel_rfl) ((Tch.refl _ W4).drewN 1) (fun hH => ?_)
  refine wpAnyH_take (i := 0) (v := q.v) rfl (by kernel_rfl) (by kernel_rfl) (by kernel_rfl) (fun _ _ _ h => h) (.inl ⟨by rfl, fun _ _ => by kernel_rfl⟩) hH ?_
  (try simp only [List.getElem_toArray, List.getElem_cons_zero, Act.put, List.setIfInBounds_toArray, List.set_cons_zero, List.set_cons_succ])
  refine wpAnyH_take (i := 1) (v := .pointer (some ⟨(w.heap.size + 1 + 1), 1, none⟩)) rfl (by kernel_rfl) (by kernel_rfl) (by kernel_rfl) (fun _ _ _ h => h) (.inl ⟨by rfl, fun _ _ => by kernel_rfl⟩) hH ?_
  (try simp only [List.getElem_toArray, List.getElem_cons_zero, List.getElem_cons_succ, Act.put, List.setIfInBounds_toArray, List.set_cons_zero, List.set_cons_succ])
  refine wpAnyH_take (i := 2) (v := d.vec.v) rfl (by kernel_rfl) (by kernel_rfl) (by kernel_rfl) (fun _ _ _ h => h) (yieldsIf_loadP (by rfl) _ rfl rfl (fun _ t => load_i32sK ((HI.out.tch t HNE.out).cell 1))) hH ?_
  (try simp only [List.getElem_toArray, List.getElem_cons_zero, List.getElem_cons_succ, Act.put, List.setIfInBounds_toArray, List.set_cons_zero, List.set_cons_succ])
  refine wpAnyH_take (i := 4) (v := .pointer (some ⟨(w.heap.size + 1 + 1), 0, none⟩)) rfl (by kernel_rfl) (by kernel_rfl) (by kernel_rfl) (fun _ _ _ h => h) (.inl ⟨by rfl, fun _ _ => by kernel_rfl⟩) hH ?_
  (try simp only [List.getElem_toArray, List.getElem_cons_zero, List.getElem_cons_succ, Act.put, List.setIfInBounds_toArray, List.set_cons_zero, List.set_cons_succ])
  refine wpAnyH_take (i := 5) (v := .int .u64 d.id) rfl (by kernel_rfl) (by kernel_rfl) (by kernel_rfl) (fun _ _ _ h => h) (yieldsIf_loadP (by rfl) _ rfl rfl (fun _ t => load_u64K ((HI.out.tch t HNE.out).cell 0))) hH ?_
  (try simp only [List.getElem_toArray, List.getElem_cons_zero, List.getElem_cons_succ, Act.put, List.setIfInBounds_toArray, List.set_cons_zero, List.set_cons_succ])
  refine wpAnyH_take (i := 7) (v := .int .i64 (k : Nat)) rfl (by kernel_rfl) (by kernel_rfl) (by kernel_rfl) (fun _ _ _ h => h) (.inl ⟨by rfl, fun _ _ => by kernel_rfl⟩) hH ?_
  (try simp only [List.getElem_toArray, List.getElem_cons_zero, List.getElem_cons_succ, Act.put, List.setIfInBounds_toArray, List.set_cons_zero, List.set_cons_succ])
  refine wpAnyH_call 3 23 #[q.v, d.vec.v] _ (by kernel_rfl) (by rfl) (by kernel_rfl) (by kernel_rfl) (HD.out _ hH) ?_
  rintro e Z1 ⟨rfl, rfl⟩
  refine ⟨_, rfl, hH, ?_⟩
  (try simp only [List.getElem_toArray, List.getElem_cons_zero, List.getElem_cons_succ, Act.put, List.setIfInBounds_toArray, List.set_cons_zero, List.set_cons_succ])
  refine wpAnyH_take (i := 6) (v := hitV ⟨(distE q.xs d.vec.xs : Nat), d.id, k⟩) rfl (by kernel_rfl) (by kernel_rfl) (by kernel_rfl) (fun _ _ _ h => h) (.inl ⟨by rfl, fun _ _ => by kernel_rfl⟩) hH ?_
  (try simp only [List.getElem_toArray, List.getElem_cons_zero, List.getElem_cons_succ, Act.put, List.setIfInBounds_toArray, List.set_cons_zero, List.set_cons_succ])
  refine wpAnyH_take (i := 8) (v := spV ⟨(distE q.xs d.vec.xs : Nat), d.id, k⟩) rfl (by kernel_rfl) (by kernel_rfl) (by kernel_rfl) (fun _ _ _ h => h) (.inl ⟨by rfl, fun _ _ => by kernel_rfl⟩) hH ?_
  (try simp only [List.getElem_toArray, List.getElem_cons_zero, List.getElem_cons_succ, Act.put, List.setIfInBounds_toArray, List.set_cons_zero, List.set_cons_succ])
  refine wpAnyH_store 9 _ _ _ (by kernel_rfl) (by rfl) (by kernel_rfl) (by rfl) (by rfl) (by rfl) (SR) (HTT.out) ?_
  (try simp only [List.getElem_toArray, List.getElem_cons_zero, List.getElem_cons_succ, Act.put])
  refine wpAnyH_done (by kernel_rfl) ?_ _
  go_wp2_with fail
  refine bodyPost_ret (v := spV ⟨(distE q.xs d.vec.xs : Nat), d.id, k⟩) ?_ rfl ⟨rfl, HBB.out⟩
  exact results_cell_row Try.results14 _ _ (w.heap.size + 1) 44 _ (0, 0) _ rfl HV.out Try.underlying44 rfl spotTK
end Go.Proofs.Ytpbjndjbpihfmaa
