/- Apart among one spot: that one. -/
import Derived.Test.YtpcbfoddlpgdjaaPeA
import Derived.WalkMore
namespace Go.Proofs.Ytpcbfoddlpgdjaa
open Go.RowKit
/-- A candidate without an item. -/
def cdC (x : Sp) : Array Value := #[.int .u64 x.d, .int .u64 x.id, .int .i64 x.s, .slice none 0 0]
theorem cdT : (Try.prog.info? 90).map (·.size) = some 4 := by kernel_rfl
theorem info_cd : (Try.prog.info? 90).map (fun i => (i.zero, i.size, i.bytes)) = some (some (.agg #[.int .u64 0, .int .u64 0, .int .i64 0, .slice none 0 0]), 4, 48) := by kernel_rfl
theorem cd_load {w : World} {b : Nat} {x : Sp} (h : Blk w b 90 (cdC x)) : (Instr.loadAt 90 (.pointer (some ⟨b, 0, none⟩))).run Try.prog w = .ok (.agg (cdC x)) w :=
  range_load (xs := cdC x) h.range Try.underlying90 rfl cdT
theorem cd_one (x : Sp) : ∀ u ∈ (cdC x).toList, u.oneCell' = true := by
  intro u hu
  rcases (by simpa [cdC] using hu : u = _ ∨ u = _ ∨ u = _ ∨ u = _) with rfl | rfl | rfl | rfl <;> rfl
theorem cd_put (W : World) (x : Sp) : (Instr.storeAt 90 (.pointer (some ⟨W.heap.size, 0, none⟩)) (.agg (cdC x))).run Try.prog (W.alloc (.cells #[.int .u64 0, .int .u64 0, .int .i64 0, .slice none 0 0] 90)) = .ok () ((W.alloc (.cells #[.int .u64 0, .int .u64 0, .int .i64 0, .slice none 0 0] 90)).setCells W.heap.size 0 (cdC x).toList) :=
  row_store (Blk.new W 90 #[.int .u64 0, .int .u64 0, .int .i64 0, .slice none 0 0]) (cdC x) rfl cdT (by simp [cdC, Value.oneCell'])
theorem cd_blk (W : World) (x : Sp) : Blk ((W.alloc (.cells #[.int .u64 0, .int .u64 0, .int .i64 0, .slice none 0 0] 90)).setCells W.heap.size 0 (cdC x).toList) W.heap.size 90 (cdC x) :=
  (Blk.new W 90 #[.int .u64 0, .int .u64 0, .int .i64 0, .slice none 0 0]).put _ rfl
theorem cd_spot {w : World} {b t : Nat} {x : Sp} (h : Blk w b t (cdC x)) : (Instr.loadAt 35 (.pointer (some ⟨b, 0, none⟩))).run Try.prog w = .ok (.agg (spC x)) w :=
  range_load (xs := spC x) (fun j v hv => by
    have hj : j < 3 := (List.getElem?_eq_some_iff.1 hv).1
    rw [Nat.zero_add, h.cell, ← Array.getElem?_toList, ← hv]
    rcases (by omega : j = 0 ∨ j = 1 ∨ j = 2) with rfl | rfl | rfl <;> rfl) Try.underlying35 rfl spotTK
theorem madeCd : madeCells #[.int .u64 0, .int .u64 0, .int .i64 0, .slice none 0 0] 4 = #[.int .u64 0, .int .u64 0, .int .i64 0, .slice none 0 0] := by kernel_rfl
theorem make_cd (w : World) : (Instr.makeSlice 71 (.int .i64 1) (.int .i64 1)).run Try.prog w = .ok (.slice (some ⟨w.heap.size, 0, none⟩) 1 1) (w.alloc (.cells #[.int .u64 0, .int .u64 0, .int .i64 0, .slice none 0 0] 90)) := by
  obtain ⟨i, hi, hz, hz1, hz2⟩ := info_parts info_cd
  have := run_make (P := Try.prog) w 71 90 i _ Try.underlying71 hi hz .i64 .i64 1 1 (by omega) (by omega) (by rw [hz2]; omega) (by omega)
  rw [hz1] at this
  rw [← madeCd]
  simpa [Value.cells] using this
set_option maxRecDepth 100000 in
theorem insC_one (A : Option Addr) (c : Nat) (fv : Value) (w : World) : Calls Try.prog 81 #[.slice A 1 c, .int .i64 0, .int .i64 1, fv] w fun e w' => e = .returned (.tuple #[]) ∧ w = w' := by
  go_enter Try.func81, Try.ntmps81
  go_wp2
  refine wp_loop_rounds 1 ?_
  rw [rounds_succ]
  go_wp2
  go_end0
  exact ⟨rfl, rfl⟩
set_option maxRecDepth 100000 in
theorem stableC_one (A : Option Addr) (c : Nat) (fv : Value) (w : World) : Calls Try.prog 75 #[.slice A 1 c, .int .i64 1, fv] w fun e w' => e = .returned (.tuple #[]) ∧ w = w' := by
  go_enter Try.func75, Try.ntmps75
  go_wp2
  refine wp_loop_rounds 1 ?_
  rw [rounds_succ]
  go_wp2_with (go_at_call 81; refine (insC_one _ _ _ _).mono ?_; rintro e w' ⟨rfl, rfl⟩)
  refine wp_loop_rounds 1 ?_
  rw [rounds_succ]
  go_wp2
  go_end0
  exact ⟨rfl, rfl⟩
set_option maxRecDepth 100000 in
theorem sortC_one (A : Option Addr) (c : Nat) (fv : Value) (w : World) : Calls Try.prog 62 #[.slice A 1 c, fv] w fun e w' => e = .returned (.tuple #[]) ∧ w = w' := by
  go_enter Try.func62, Try.ntmps62
  go_wp2_with (go_at_call 75; refine (stableC_one _ _ _ _).mono ?_; rintro e w' ⟨rfl, rfl⟩)
  go_end0
  exact ⟨rfl, rfl⟩
theorem cd_of (w : World) (x : Sp) : ∃ V, (Instr.storeAt 35 (.pointer (some ⟨w.heap.size, 0, none⟩)) (.agg (spC x))).run Try.prog w = .ok () V → True := ⟨w, fun _ => trivial⟩
set_option maxRecDepth 100000 in
set_option maxHeartbeats 4000000 in
theorem ch_sorted (g t : Nat) (x : Sp) (w : World) (hx : Blk w g t (spC x)) :
    Calls Try.prog 57 #[.slice (some ⟨g, 0, none⟩) 1 1, .slice none 0 0] w fun e w' => ∃ h, e = .returned (.slice (some ⟨h, 0, none⟩) 1 1) ∧ Blk w' h 90 (cdC x) ∧ w.heap.size ≤ h ∧ Below w.heap.size w w' := by
  have hm := make_cd w
  obtain ⟨w1, hw1⟩ : ∃ x, w.alloc (.cells #[.int .u64 0, .int .u64 0, .int .i64 0, .slice none 0 0] 90) = x := ⟨_, rfl⟩
  have b1 : Below w.heap.size w w1 := by rw [← hw1]; exact (Below.refl _ w).alloc (Nat.le_refl _) _
  have k1 : Blk w1 w.heap.size 90 #[.int .u64 0, .int .u64 0, .int .i64 0, .slice none 0 0] := by rw [← hw1]; exact Blk.new _ _ _
  have LX := spB_load (hx.below b1 hx.lt)
  obtain ⟨W3, hW3⟩ : ∃ W3, (w1.alloc (.cells #[.int .u64 0, .int .u64 0, .int .i64 0] 35)).setCells w1.heap.size 0 (spC x).toList = W3 := ⟨_, rfl⟩
  have SI := spB_put w1 x
  rw [hW3] at SI
  have kx : Blk W3 w1.heap.size 35 (spC x) := by rw [← hW3]; exact spB_blk w1 x
  have b3 : Below w1.heap.size w1 W3 := by rw [← hW3]; exact put_bel _ _ _
  have LS := spB_load kx
  have k3 := k1.below b3 k1.lt
  have SO := row_store_mid (P := Try.prog) k3 0 (spC x) (by show 0 + 3 ≤ 4; decide) spotTK (by simp [spC, Value.oneCell'])
  obtain ⟨V, hV⟩ : ∃ V, W3.setCells w.heap.size 0 (spC x).toList = V := ⟨_, rfl⟩
  rw [hV] at SO
  have kV : Blk V w.heap.size 90 (cdC x) := by
    rw [← hV]
    exact ((k3.set_ 0 _).set_ 1 _).set_ 2 _
  have HV := Lib.hid kV
  have HB : Hid (Below w.heap.size w V) := by
    show Below _ _ _
    rw [← hV]
    exact (b1.trans (b3.mono b1.size)).trans ((Tch.setCells (S := fun k => k = w.heap.size) rfl (spC x).toList 0 W3 (Tch.refl _ W3)).below (Nat.le_trans b1.size b3.size) (fun _ hk => Nat.le_of_eq hk.symm))
  rw [hw1] at hm
  clear hx b1 k1 hw1 kx b3 k3 kV hV hW3
  go_enter Try.func57, Try.ntmps57
  go_wp2
  refine wp_loop_rounds 2 ?_
  rw [rounds_succ]
  go_wp2_with (first | refine wpList_loadE LX _ rfl rfl rfl ?_ | refine wpList_loadE LS _ rfl rfl rfl ?_ | refine wpList_storeE SI _ _ rfl rfl rfl rfl ?_ | refine wpList_storeE SO _ _ rfl rfl rfl rfl ?_)
  rw [rounds_succ]
  clear LX LS SI SO
  go_wp2_with (go_at_call 62; refine (sortC_one _ _ _ _).mono ?_; rintro e w' ⟨rfl, rfl⟩)
  go_ret
  exact ⟨_, rfl, HV.out, Nat.le_refl _, HB.out⟩
set_option maxRecDepth 100000 in
set_option maxHeartbeats 4000000 in
theorem ch_part (g t : Nat) (x : Sp) (w : World) (hx : Blk w g t (spC x)) :
    Calls Try.prog 41 #[.slice (some ⟨g, 0, none⟩) 1 1, .slice none 0 0] w fun e w' => ∃ h c, e = .returned (.tuple #[.slice (some ⟨h, 0, none⟩) 1 c, .slice none 0 0]) ∧ w'.ownsRow w.heap.size 90 4 (.slice (some ⟨h, 0, none⟩) 1 c) 1 (cdC x).toList ∧ Below w.heap.size w w' := by
  have HC := Lib.hid (ch_sorted g t x w hx)
  go_enter Try.func41, Try.ntmps41
  go_wp2
  go_step3
  go_wp2
  go_step3
  go_wp2_with (go_at_call 57; (with_reducible refine HC.out.mono ?_); rintro e w1 ⟨h, rfl, kh, hle, hb⟩; have KH := Lib.hid kh; have HB1 := Lib.hid hb; clear kh hb)
  clear HC hx
  have LX := cd_load KH.out
  obtain ⟨W3, hW3⟩ : ∃ W3, (w1.alloc (.cells #[.int .u64 0, .int .u64 0, .int .i64 0, .slice none 0 0] 90)).setCells w1.heap.size 0 (cdC x).toList = W3 := ⟨_, rfl⟩
  have SI := cd_put w1 x
  rw [hW3] at SI
  have kx : Blk W3 w1.heap.size 90 (cdC x) := by rw [← hW3]; exact cd_blk w1 x
  have b3 : Below w1.heap.size w1 W3 := by rw [← hW3]; exact put_bel _ _ _
  have LS := cd_load kx
  have HB3 : Hid (Below w.heap.size w W3) := HB1.out.trans (b3.mono HB1.out.size)
  have HO3 : Hid (W3.ownsRow w.heap.size 90 4 (.slice none 0 0) 0 []) := ⟨by simp, Or.inl ⟨rfl, rfl⟩⟩
  clear hW3 kx b3
  refine wp_loop_rounds 2 ?_
  rw [rounds_succ]
  go_wp2_with (first | refine wpList_loadE LX _ rfl rfl rfl ?_ | refine wpList_loadE LS _ rfl rfl rfl ?_ | refine wpList_storeE SI _ _ rfl rfl rfl rfl ?_ | refine wpList_storeE SO _ _ rfl rfl rfl rfl ?_)
  unfold cdC at LS
  refine wp_loop_rounds 1 ?_
  rw [rounds_succ]
  go_wp2_with (first | refine wpList_loadE LS _ rfl rfl rfl ?_ | (at_builtin; refine wpList_push1 rfl (.tmp 39) (.tmp 41) 71 90 4 48 _ rfl Try.underlying71 info_cd rfl (by decide) W3 w.heap.size _ 0 [] (cdC x) rfl HO3.out rfl rfl (cd_one x) (by decide) (by decide) HB3.out.size ?_; intro g2 c4 W4 ho hgr hb hat; replace ho := Lib.hid ho; replace hb := Lib.hid hb; clear hgr hat))
  clear LX LS SI
  rw [rounds_succ]
  go_wp2
  (try rw [Exit.noGoto_ret])
  go_ret2
  exact ⟨_, _, rfl, ho.out, HB3.out.trans hb.out⟩
set_option maxRecDepth 100000 in
set_option maxHeartbeats 4000000 in
theorem ch_spots (h c : Nat) (x : Sp) (w : World) (hk : ∃ t, t ≤ w.heap.size ∧ w.ownsRow t 90 4 (.slice (some ⟨h, 0, none⟩) 1 c) 1 (cdC x).toList) :
    Calls Try.prog 42 #[.slice (some ⟨h, 0, none⟩) 1 c, .int .i64 1] w fun e w' => ∃ b c', e = .returned (.slice (some ⟨b, 0, none⟩) 1 c') ∧ Below w.heap.size w w' := by
  obtain ⟨t, ht, hk⟩ := hk
  have LX : (Instr.loadAt 90 (.pointer (some ⟨h, 0, none⟩))).run Try.prog w = .ok (.agg (cdC x)) w := by
    rcases hk.2 with ⟨_, e0⟩ | ⟨g, cap, cur, ev, _, hh, _, _, _, h4⟩
    · omega
    · injection ev with q1 q2 q3
      injection q1 with q1; injection q1 with q1 _ _
      subst q1
      have hb : Blk w h 90 cur := hh
      refine range_load (xs := cdC x) (fun j v hv => ?_) Try.underlying90 rfl cdT
      rw [Nat.zero_add, hb.cell, ← Array.getElem?_toList]
      rw [← h4, List.getElem?_take] at hv
      split at hv
      · exact hv
      · cases hv
  have hc : 1 ≤ c := by
    rcases hk.2 with ⟨_, e0⟩ | ⟨g, cap, cur, ev, _, _, _, h2, _⟩
    · omega
    · injection ev with q1 q2 q3
      omega
  obtain ⟨W3, hW3⟩ : ∃ W3, (w.alloc (.cells #[.int .u64 0, .int .u64 0, .int .i64 0, .slice none 0 0] 90)).setCells w.heap.size 0 (cdC x).toList = W3 := ⟨_, rfl⟩
  have SI := cd_put w x
  rw [hW3] at SI
  have kx : Blk W3 w.heap.size 90 (cdC x) := by rw [← hW3]; exact cd_blk w x
  have b3 : Below w.heap.size w W3 := by rw [← hW3]; exact put_bel _ _ _
  have LS := cd_spot kx
  have HB3 := Lib.hid b3
  have HC := Lib.hid hc
  have HO3 : Hid (W3.ownsRow w.heap.size 35 3 (.slice none 0 0) 0 []) := ⟨by simp, Or.inl ⟨rfl, rfl⟩⟩
  clear hW3 kx b3 hk hc ht
  go_enter Try.func42, Try.ntmps42
  have hc := HC.out
  go_wp2
  unfold spC at LS
  refine wp_loop_rounds 2 ?_
  rw [rounds_succ]
  go_wp2_with (first | refine wpList_loadE LX _ rfl rfl rfl ?_ | refine wpList_loadE LS _ rfl rfl rfl ?_ | refine wpList_storeE SI _ _ rfl rfl rfl rfl ?_ | (at_builtin; refine wpList_push1 rfl (.tmp 20) (.tmp 23) 25 35 3 24 _ rfl Try.underlying25 info_spotK rfl (by decide) W3 w.heap.size _ 0 [] (spC x) rfl HO3.out rfl rfl (fun u hu => by rcases (by simpa [spC] using hu : u = _ ∨ u = _ ∨ u = _) with rfl | rfl | rfl <;> rfl) (by decide) (by decide) HB3.out.size ?_; intro g2 c4 W4 ho hgr hb hat; replace hb := Lib.hid hb; clear ho hgr hat))
  clear LX LS SI
  rw [rounds_succ]
  go_wp2
  go_ret
  exact ⟨_, _, rfl, HB3.out.trans hb.out⟩
theorem ch_apart (g t : Nat) (x : Sp) (w : World) (hx : Blk w g t (spC x)) :
    Calls Try.prog 23 #[.slice (some ⟨g, 0, none⟩) 1 1, .slice none 0 0] w fun e w' => ∃ b c', e = .returned (.slice (some ⟨b, 0, none⟩) 1 c') ∧ Below w.heap.size w w' := by
  have HC := Lib.hid (ch_part g t x w hx)
  clear hx
  go_enter Try.func23, Try.ntmps23
  go_wp2_with (first
    | (go_at_call 41; (with_reducible refine HC.out.mono ?_); rintro e w1 ⟨h, c, rfl, ho, hb⟩; have HB1 := Lib.hid hb; have HS := Lib.hid (ch_spots h c x w1 ⟨_, hb.size, ho⟩); clear ho hb)
    | (go_at_call 42; (with_reducible refine HS.out.mono ?_); rintro e w2 ⟨b, c', rfl, hb⟩; have HB2 := Lib.hid hb; clear hb))
  go_ret
  exact ⟨_, _, rfl, HB1.out.trans (HB2.out.mono HB1.out.size)⟩
theorem blk_rdI {w : World} {g t : Nat} {k : IntKind} {zs : List Int} {n : Nat} (h : Blk w g t (zs.map (Value.int k)).toArray) (hn : zs.length = n) : Rd w w.heap.size (some ⟨g, 0, none⟩) n (zs.map (.int k)) :=
  ⟨by simpa using hn, fun _ => ⟨g, 0, rfl, h.lt, fun j u hu => by rw [Nat.zero_add, h.cell, ← Array.getElem?_toList]; exact hu⟩⟩
theorem far5 (q v1 v2 : IS) (hq : q.xs = [0]) (h1 : v1.xs = [3]) (h2 : v2.xs = [1]) : sortSp (spEs q [4, 5] [⟨0, v1, 0⟩, ⟨0, v2, 0⟩]) = [⟨1, 0, 5⟩, ⟨9, 0, 4⟩] := by
  have e1 : spEs q [4, 5] [⟨0, v1, 0⟩, ⟨0, v2, 0⟩] = [⟨9, 0, 4⟩, ⟨1, 0, 5⟩] := by
    unfold spEs spEs spEs spE dX
    simp only [hq, h1, h2]
    have a1 : (distE [0] [3] : Nat) = 9 := by decide +kernel
    have a2 : (distE [0] [1] : Nat) = 1 := by decide +kernel
    rw [a1, a2]
    rfl
  rw [e1]
  unfold sortSp
  simp [List.mergeSort, List.MergeSort.Internal.splitInTwo, show ahB ⟨1, 0, 5⟩ ⟨9, 0, 4⟩ = true by decide]
set_option maxRecDepth 100000 in
set_option maxHeartbeats 4000000 in
theorem begins5 (w : World) : Calls Try.prog 18 #[] w fun e w' => e = .returned (.bool true) ∧ Below w.heap.size w w' := by
  obtain ⟨w1, hw1⟩ : ∃ x, w.alloc (.cells #[.int .i32 0] 21) = x := ⟨_, rfl⟩
  obtain ⟨w2, hw2⟩ : ∃ x, w1.alloc (.cells #[.int .i64 4, .int .i64 5] 3) = x := ⟨_, rfl⟩
  obtain ⟨w3, hw3⟩ : ∃ x, w2.alloc (.cells #[.int .i32 3] 21) = x := ⟨_, rfl⟩
  obtain ⟨w4, hw4⟩ : ∃ x, w3.alloc (.cells #[.int .i32 1] 21) = x := ⟨_, rfl⟩
  obtain ⟨w5, hw5⟩ : ∃ x, w4.alloc (.cells #[.int .u64 0, .slice (some ⟨w2.heap.size, 0, none⟩) 1 1, .int .u64 0, .int .u64 0, .slice (some ⟨w3.heap.size, 0, none⟩) 1 1, .int .u64 0] 45) = x := ⟨_, rfl⟩
  have b1 : Below w.heap.size w w1 := by rw [← hw1]; exact bel_box _ _
  have b2 : Below w1.heap.size w1 w2 := by rw [← hw2]; exact bel_box _ _
  have b3 : Below w2.heap.size w2 w3 := by rw [← hw3]; exact bel_box _ _
  have b4 : Below w3.heap.size w3 w4 := by rw [← hw4]; exact bel_box _ _
  have b5 : Below w4.heap.size w4 w5 := by rw [← hw5]; exact bel_box _ _
  have k1 : Blk w1 w.heap.size 21 #[.int .i32 0] := by rw [← hw1]; exact Blk.new _ _ _
  have k2 : Blk w2 w1.heap.size 3 #[.int .i64 4, .int .i64 5] := by rw [← hw2]; exact Blk.new _ _ _
  have k3 : Blk w3 w2.heap.size 21 #[.int .i32 3] := by rw [← hw3]; exact Blk.new _ _ _
  have k4 : Blk w4 w3.heap.size 21 #[.int .i32 1] := by rw [← hw4]; exact Blk.new _ _ _
  have k5 : Blk w5 w4.heap.size 45 #[.int .u64 0, .slice (some ⟨w2.heap.size, 0, none⟩) 1 1, .int .u64 0, .int .u64 0, .slice (some ⟨w3.heap.size, 0, none⟩) 1 1, .int .u64 0] := by rw [← hw5]; exact Blk.new _ _ _
  have b45 := b4.trans (b5.mono b4.size)
  have b35 := b3.trans (b45.mono b3.size)
  have b25 := b2.trans (b35.mono b2.size)
  have k15 := k1.below b25 k1.lt
  have k25 := k2.below b35 k2.lt
  have k35 := k3.below b45 k3.lt
  have k45 := k4.below b5 k4.lt
  have HB5 : Hid (Below w.heap.size w w5) := b1.trans (b25.mono b1.size)
  have hq : IS.Vec w5 w5.heap.size ⟨some ⟨w.heap.size, 0, none⟩, 1, 1, [0]⟩ := ⟨fun e => (by cases e), (show (1 : Nat) ≤ 9223372036854775807 by decide), blk_rdI (zs := [0]) k15 rfl, fun z hz => by obtain rfl : z = 0 := (by simpa using hz); decide⟩
  have hv1 : IS.Vec w5 w5.heap.size ⟨some ⟨w2.heap.size, 0, none⟩, 1, 1, [3]⟩ := ⟨fun e => (by cases e), (show (1 : Nat) ≤ 9223372036854775807 by decide), blk_rdI (zs := [3]) k35 rfl, fun z hz => by obtain rfl : z = 3 := (by simpa using hz); decide⟩
  have hv2 : IS.Vec w5 w5.heap.size ⟨some ⟨w3.heap.size, 0, none⟩, 1, 1, [1]⟩ := ⟨fun e => (by cases e), (show (1 : Nat) ≤ 9223372036854775807 by decide), blk_rdI (zs := [1]) k45 rfl, fun z hz => by obtain rfl : z = 1 := (by simpa using hz); decide⟩
  have hz : Rd w5 w5.heap.size (some ⟨w1.heap.size, 0, none⟩) 2 ([4, 5].map (.int .i64)) := blk_rdI (zs := [4, 5]) k25 rfl
  have hI : Its w5 w5.heap.size (some ⟨w4.heap.size, 0, none⟩) 2 [⟨0, ⟨some ⟨w2.heap.size, 0, none⟩, 1, 1, [3]⟩, 0⟩, ⟨0, ⟨some ⟨w3.heap.size, 0, none⟩, 1, 1, [1]⟩, 0⟩] := by
    refine ⟨⟨rfl, fun c hc => by rcases (by simpa using hc : c = _ ∨ c = _) with rfl | rfl <;> rfl, fun _ => ⟨w4.heap.size, 0, rfl, k5.lt, fun i c hi j u hu => ?_⟩⟩, fun d hd => by rcases (by simpa using hd : d = _ ∨ d = _) with rfl | rfl; exact hv1; exact hv2⟩
    rw [Nat.zero_add, k5.cell, ← Array.getElem?_toList]
    rcases i with _ | _ | i
    · injection hi with hi
      subst hi
      have hj : j < 3 := (List.getElem?_eq_some_iff.1 hu).1
      rw [Nat.zero_mul, Nat.zero_add]
      rcases (by omega : j = 0 ∨ j = 1 ∨ j = 2) with rfl | rfl | rfl <;> exact hu
    · injection hi with hi
      subst hi
      have hj : j < 3 := (List.getElem?_eq_some_iff.1 hu).1
      rcases (by omega : j = 0 ∨ j = 1 ∨ j = 2) with rfl | rfl | rfl <;> exact hu
    · cases hi
  have hf := ed_far ⟨some ⟨w.heap.size, 0, none⟩, 1, 1, [0]⟩ (some ⟨w1.heap.size, 0, none⟩) 2 2 [4, 5] (some ⟨w4.heap.size, 0, none⟩) 2 _ w5 hq hz hI (by decide) (by decide)
  rw [far5 _ _ _ rfl rfl rfl] at hf
  have HF : Hid (Calls Try.prog 19 #[.slice (some ⟨w.heap.size, 0, none⟩) 1 1, .slice (some ⟨w1.heap.size, 0, none⟩) 2 2, .slice (some ⟨w4.heap.size, 0, none⟩) 2 2] w5 (fun e w' => e = .returned (.tuple #[.agg #[.int .u64 9, .int .u64 0, .int .i64 4], .bool true]) ∧ Below w5.heap.size w5 w')) := by
    refine Calls.mono hf ?_
    rintro e w' ⟨x, hx, rfl, hb⟩
    injection hx with hx
    subst hx
    exact ⟨rfl, hb⟩
  clear b1 b2 b3 b4 b5 k1 k2 k3 k4 k5 b45 b35 b25 k15 k25 k35 k45 hq hv1 hv2 hz hI hf
  go_enter Try.func18, Try.ntmps18
  go_upto_region 1 with fail
  go_upto_region 2 with (go_at_call 19; (with_reducible refine HF.out.mono ?_); rintro e w6 ⟨rfl, hb⟩; have HB6 := Lib.hid (HB5.out.trans (hb.mono HB5.out.size)); clear hb)
  clear hw1 hw2 hw3 hw4 hw5 HF
  obtain ⟨w7, hw7⟩ : ∃ x, w6.alloc (.cells #[.int .u64 9, .int .u64 0, .int .i64 4] 35) = x := ⟨_, rfl⟩
  have k7 : Blk w7 w6.heap.size 35 (spC ⟨9, 0, 4⟩) := by rw [← hw7]; exact Blk.new _ _ _
  have b7 : Below w6.heap.size w6 w7 := by rw [← hw7]; exact bel_box _ _
  have LX := spB_load k7
  unfold spC at LX
  obtain ⟨w8, hw8⟩ : ∃ x, w7.alloc (.cells #[.int .u64 9, .int .u64 0, .int .i64 4] 35) = x := ⟨_, rfl⟩
  have k8 : Blk w8 w7.heap.size 35 (spC ⟨9, 0, 4⟩) := by rw [← hw8]; exact Blk.new _ _ _
  have b8 : Below w7.heap.size w7 w8 := by rw [← hw8]; exact bel_box _ _
  have HA := Lib.hid (ch_apart w7.heap.size _ ⟨9, 0, 4⟩ w8 k8)
  have HK := Lib.hid (k7.below b8 k7.lt)
  have HB8 : Hid (Below w.heap.size w w8) := (HB6.out.trans (b7.mono HB6.out.size)).trans (b8.mono (Nat.le_trans HB6.out.size b7.size))
  clear k7 b7 k8 b8
  rw [hw7]
  go_upto_region 3 with (first
    | refine wpList_loadE LX _ rfl rfl rfl ?_
    | (go_at_call 23; (with_reducible refine HA.out.mono ?_); rintro e w9 ⟨b, c', rfl, hb⟩; have z2 : w9.cell? ⟨w6.heap.size, 2, none⟩ = some (.int .i64 4) := (HK.out.below hb HK.out.lt).cell 2; have HB9 := Lib.hid (HB8.out.trans (hb.mono HB8.out.size)); clear hb))
  clear hw7 hw8 LX HA
  go_wp2_with fail
  go_ret
  exact ⟨rfl, HB9.out⟩
end Go.Proofs.Ytpcbfoddlpgdjaa
