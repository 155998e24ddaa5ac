/- Getter: what is asked behind OpClosed, and behind OpRead. -/
import Derived.Test.YtkhnnjeinpojkaaGtG
namespace Go.Proofs.Ytkhnnjeinpojkaa
open Go.RowKit
set_option maxRecDepth 100000 in
set_option maxHeartbeats 4000000 in
theorem follow_1 (T : Nat) (c : Tk) (s : Ts) (ok : Bool) (gn gm : Int) (gL : Value) (gid : Int) (gV : Value) (gt : Int) (w : World) (h : TaskAt w T c s) (hk : s.ok = 1) (cv : List Int) (k a n id : Int) (s2 : Ts) (HO : ∀ w, TaskAt w T c s → VV w c.V cv → Calls Try.prog 92 #[.pointer (some ⟨T, 0, none⟩), .agg (gotL ok gn gm gL gid gV gt)] w (RetF T c w k a n id fun _ s' => s' = s2)) (hv : VV w c.V cv) :
    Calls Try.prog 66 #[.pointer (some ⟨T, 0, none⟩), .agg (gotL ok gn gm gL gid gV gt)] w (RetF T c w k a n id (fun _ s' => s' = s2)) := by
  have hT := h.lt
  have hne1 : T ≠ w.heap.size := by omega
  have hne2 : T ≠ w.heap.size + 1 := by omega
  have K2 : TaskAt ((w.alloc (.cells (gotL ok gn gm gL gid gV gt) 42)).alloc (.cells (opA 0 0 0 0) 44)) T c s := (Blk.alloc (Blk.alloc h _) _)
  have c8 : ((w.alloc (.cells (gotL ok gn gm gL gid gV gt) 42)).alloc (.cells (opA 0 0 0 0) 44)).cell? ⟨T, 8, none⟩ = some (.int .i64 1) := by
    rw [← hk]; exact Blk.cell K2 8
  have hs1 : (w.alloc (.cells (gotL ok gn gm gL gid gV gt) 42)).heap.size = w.heap.size + 1 := by simp only [World.alloc, Array.size_push]
  have KG := (Blk.new w 42 (gotL ok gn gm gL gid gV gt)).alloc (.cells (opA 0 0 0 0) 44)
  have KR := op_new (w.alloc (.cells (gotL ok gn gm gL gid gV gt) 42)) 0 0 0 0
  rw [hs1] at KR
  have t2 : Tch (fun k => k = T) w ((w.alloc (.cells (gotL ok gn gm gL gid gV gt) 42)).alloc (.cells (opA 0 0 0 0) 44)) := ((Tch.refl _ w).alloc _).alloc _
  have HKG := Lib.hid KG
  have HKR := Lib.hid KR
  have HT2 := Lib.hid t2
  have HK2 := Lib.hid K2
  have b2 : Below w.heap.size w ((w.alloc (.cells (gotL ok gn gm gL gid gV gt) 42)).alloc (.cells (opA 0 0 0 0) 44)) := ((Below.refl _ w).alloc (Nat.le_refl _) _).alloc (by rw [hs1]; omega) _
  have HC := Lib.hid (HO _ K2 (hv.below b2))
  clear b2 HO hv
  clear K2 KG KR t2 hs1 hk
  unfold gotL opA at *
  go_enter Try.func66, Try.ntmps66
  go_wp2_with fail
  refine HC.out.mono ?_
  rintro e w3 ⟨rfl, ⟨s', K3, rfl⟩, t3⟩
  have KR3 : Blk w3 (w.heap.size + 1) 44 (opA 0 0 0 0) := HKR.out.tch t3 (fun e => hne2 e.symm)
  have T3 : Tch (fun k => k = T) w w3 := HT2.out.trans t3 fun _ q => .inl q
  clear HKG HKR HT2 HK2 t3 c8 HC
  unfold opA
  have KF := Blk.put KR3 (opL k a n id) rfl
  have tf : Tch (fun k => k = w.heap.size + 1) w3 (World.setCells w3 (w.heap.size + 1) 0 (opL k a n id)) := Tch.setCells (S := fun k => k = w.heap.size + 1) (g := w.heap.size + 1) rfl _ _ _ (Tch.refl _ _)
  have KTF := TaskAt.tch K3 tf hne2
  have TF : Tch (fun k => k = T) w (World.setCells w3 (w.heap.size + 1) 0 (opL k a n id)) := (T3.trans tf fun _ q => .inr (by omega))
  have hKF := Lib.hid KF
  have hKTF := Lib.hid KTF
  have hTF := Lib.hid TF
  obtain ⟨⟨r0, r1, r2, r3, r4, r5, r6, r7, r8, r9⟩, rf⟩ := op_cells KR3
  clear KF tf KTF TF
  go_wp2_with fail
  clear r0 r1 r2 r3 r4 r5 r6 r7 r8 r9 rf
  change bodyPost _ _ _ _ _ (World.setCells w3 (w.heap.size + 1) 0 (opL k a n id))
  obtain ⟨wF, hF⟩ : ∃ x, World.setCells w3 (w.heap.size + 1) 0 (opL k a n id) = x := ⟨_, rfl⟩
  rw [hF] at hKF hKTF hTF ⊢
  obtain ⟨⟨m0, m1, m2, m3, m4, m5, m6, m7, m8, m9⟩, _⟩ := op_cells (w := wF) (r := w.heap.size + 1) (k := k) (a := a) (n := n) (id := id) hKF.out
  refine bodyPost_ret (v := .agg (opA k a n id)) ?_ rfl ⟨rfl, ⟨_, hKTF.out, rfl⟩, hTF.out⟩
  simp [results, Try.results66, go_sem, opA, m0, m1, m2, m3, m4, m5, m6, m7, m8, m9]
set_option maxRecDepth 100000 in
set_option maxHeartbeats 4000000 in
theorem follow_27 (T : Nat) (c : Tk) (s : Ts) (ok : Bool) (gn gm : Int) (gL : Value) (gid : Int) (gV : Value) (gt : Int) (w : World) (h : TaskAt w T c s) (hk : s.ok = 27) (gvec : List Int) (hv : VV w gV gvec) (hn : NotAt T gV) :
    Calls Try.prog 66 #[.pointer (some ⟨T, 0, none⟩), .agg (gotL ok gn gm gL gid gV gt)] w (RetF T c w 6 0 0 0 (fun w' s' => ∃ V', s' = { s with tid := gid, TV := V', ttags := gt } ∧ VV w' V' gvec ∧ Fresh w.heap.size V')) := by
  have hT := h.lt
  have hne1 : T ≠ w.heap.size := by omega
  have hne2 : T ≠ w.heap.size + 1 := by omega
  have K2 : TaskAt ((w.alloc (.cells (gotL ok gn gm gL gid gV gt) 42)).alloc (.cells (opA 0 0 0 0) 44)) T c s := (Blk.alloc (Blk.alloc h _) _)
  have c8 : ((w.alloc (.cells (gotL ok gn gm gL gid gV gt) 42)).alloc (.cells (opA 0 0 0 0) 44)).cell? ⟨T, 8, none⟩ = some (.int .i64 27) := by
    rw [← hk]; exact Blk.cell K2 8
  have hs1 : (w.alloc (.cells (gotL ok gn gm gL gid gV gt) 42)).heap.size = w.heap.size + 1 := by simp only [World.alloc, Array.size_push]
  have KG := (Blk.new w 42 (gotL ok gn gm gL gid gV gt)).alloc (.cells (opA 0 0 0 0) 44)
  have KR := op_new (w.alloc (.cells (gotL ok gn gm gL gid gV gt) 42)) 0 0 0 0
  rw [hs1] at KR
  have t2 : Tch (fun k => k = T) w ((w.alloc (.cells (gotL ok gn gm gL gid gV gt) 42)).alloc (.cells (opA 0 0 0 0) 44)) := ((Tch.refl _ w).alloc _).alloc _
  have HKG := Lib.hid KG
  have HKR := Lib.hid KR
  have HT2 := Lib.hid t2
  have HK2 := Lib.hid K2
  have b2 : Below w.heap.size w ((w.alloc (.cells (gotL ok gn gm gL gid gV gt) 42)).alloc (.cells (opA 0 0 0 0) 44)) := ((Below.refl _ w).alloc (Nat.le_refl _) _).alloc (by rw [hs1]; omega) _
  have v2 := Lib.hid (hv.below b2)
  obtain ⟨gA, gN, gC, hgV, _⟩ := id hv
  subst hgV
  obtain ⟨w2, hw2⟩ : ∃ x, x = ((w.alloc (.cells (gotL ok gn gm gL gid (.slice gA gN gC) gt) 42)).alloc (.cells (opA 0 0 0 0) 44)) := ⟨_, rfl⟩
  rw [← hw2] at HKG HKR HT2 HK2 v2
  have d30 : w2.cell? ⟨T, 30, none⟩ = some (.int .u64 s.tid) := Blk.cell HK2.out 30
  have d31 : w2.cell? ⟨T, 31, none⟩ = some s.TV := Blk.cell HK2.out 31
  have d32 : w2.cell? ⟨T, 32, none⟩ = some (.int .u64 s.ttags) := Blk.cell HK2.out 32
  have df := Blk.frozen HK2.out
  have K3 : TaskAt (((w2.setCell ⟨T, 30, none⟩ (.int .u64 gid)).setCell ⟨T, 31, none⟩ (.slice gA gN gC)).setCell ⟨T, 32, none⟩ (.int .u64 gt)) T c { s with tid := gid, TV := .slice gA gN gC, ttags := gt } := ((Blk.set_ HK2.out 30 (.int .u64 gid)).set_ 31 (.slice gA gN gC)).set_ 32 (.int .u64 gt)
  have KG3 : Blk (((w2.setCell ⟨T, 30, none⟩ (.int .u64 gid)).setCell ⟨T, 31, none⟩ (.slice gA gN gC)).setCell ⟨T, 32, none⟩ (.int .u64 gt)) w.heap.size 42 (gotL ok gn gm gL gid (.slice gA gN gC) gt) := ((HKG.out.far (p := ⟨T, 30, none⟩) (fun e => hne1 e.symm) _).far (p := ⟨T, 31, none⟩) (fun e => hne1 e.symm) _).far (p := ⟨T, 32, none⟩) (fun e => hne1 e.symm) _
  have KR3 : Blk (((w2.setCell ⟨T, 30, none⟩ (.int .u64 gid)).setCell ⟨T, 31, none⟩ (.slice gA gN gC)).setCell ⟨T, 32, none⟩ (.int .u64 gt)) (w.heap.size + 1) 44 (opA 0 0 0 0) := ((HKR.out.far (p := ⟨T, 30, none⟩) (fun e => hne2 e.symm) _).far (p := ⟨T, 31, none⟩) (fun e => hne2 e.symm) _).far (p := ⟨T, 32, none⟩) (fun e => hne2 e.symm) _
  have t3 : Tch (fun k => k = T) w2 (((w2.setCell ⟨T, 30, none⟩ (.int .u64 gid)).setCell ⟨T, 31, none⟩ (.slice gA gN gC)).setCell ⟨T, 32, none⟩ (.int .u64 gt)) := Tch.setCell (S := fun k => k = T) (Tch.setCell (S := fun k => k = T) (Tch.setCell (S := fun k => k = T) (Tch.refl _ w2) (g := T) rfl 30 _) (g := T) rfl 31 _) (g := T) rfl 32 _
  have T3 := HT2.out.trans t3 fun _ q => .inl q
  have v3 := v2.out.tch t3 hn (fun _ _ q => q)
  obtain ⟨w3, hw3⟩ : ∃ x, (((w2.setCell ⟨T, 30, none⟩ (.int .u64 gid)).setCell ⟨T, 31, none⟩ (.slice gA gN gC)).setCell ⟨T, 32, none⟩ (.int .u64 gt)) = x := ⟨_, rfl⟩
  rw [hw3] at K3 KG3 KR3 T3 v3
  have HK3 := Lib.hid K3
  have HKG3 := Lib.hid KG3
  have HKR3 := Lib.hid KR3
  have HT3 := Lib.hid T3
  have HV3 := Lib.hid v3
  rw [← hw2] at c8
  have e4 : w2.cell? ⟨w.heap.size, 4, none⟩ = some (.int .u64 gid) := HKG.out.cell 4
  have e5 : w2.cell? ⟨w.heap.size, 5, none⟩ = some (.slice gA gN gC) := HKG.out.cell 5
  have e6 : w2.cell? ⟨w.heap.size, 6, none⟩ = some (.int .u64 gt) := HKG.out.cell 6
  clear HKG HKR HT2 HK2 v2 b2 K3 KG3 KR3 t3 T3 v3 hv hn h
  clear K2 KG KR t2 hs1 hk
  unfold gotL opA at hw2
  unfold gotL
  go_enter Try.func66, Try.ntmps66
  go_upto_region 1 with fail
  rw [← hw2]
  clear hw2
  go_upto_region 24 with fail
  (try rw [hw3])
  clear hw3 c8 e4 e5 e6 d30 d31 d32 df
  have e5 : w3.cell? ⟨w.heap.size, 5, none⟩ = some (.slice gA gN gC) := HKG3.out.cell 5
  have f31 := Blk.frozen HK3.out 31
  have d31 : w3.cell? ⟨T, 31, none⟩ = some (.slice gA gN gC) := Blk.cell HK3.out 31
  go_wp2_with fail
  refine (clone32 HV3.out).mono ?_
  rintro e w4 ⟨⟨V', rfl, v4, fr⟩, b4⟩
  obtain ⟨A', n', c', hV', _⟩ := id v4
  subst hV'
  have K4 : TaskAt w4 T c { s with tid := gid, TV := .slice gA gN gC, ttags := gt } := Blk.below HK3.out b4 (Blk.lt HK3.out)
  have KR4 : Blk w4 (w.heap.size + 1) 44 (opA 0 0 0 0) := Blk.below HKR3.out b4 (Blk.lt HKR3.out)
  have hT3 : T < w3.heap.size := Blk.lt HK3.out
  have hR3 : w.heap.size + 1 < w3.heap.size := Blk.lt HKR3.out
  have T4 := HT3.out.trans (Tch.of_below b4 : Tch (fun k => k = T) _ _) fun _ q => .inl q
  have nT := fr.notAt hT3
  have nR := fr.notAt hR3
  have fW : Fresh w.heap.size (.slice A' n' c') := fun b o m n c e h0 => Nat.le_trans HT3.out.size (fr b o m n c e h0)
  have g31 : w4.cell? ⟨T, 31, none⟩ = some (.slice gA gN gC) := Blk.cell K4 31
  have f31' := Blk.frozen K4 31
  have K5 : TaskAt (w4.setCell ⟨T, 31, none⟩ (.slice A' n' c')) T c { s with tid := gid, TV := .slice A' n' c', ttags := gt } := Blk.set_ K4 31 (.slice A' n' c')
  have KR5 : Blk (w4.setCell ⟨T, 31, none⟩ (.slice A' n' c')) (w.heap.size + 1) 44 (opA 0 0 0 0) := KR4.far (p := ⟨T, 31, none⟩) (fun e => hne2 e.symm) (.slice A' n' c')
  have t5 : Tch (fun k => k = T) w4 (w4.setCell ⟨T, 31, none⟩ (.slice A' n' c')) := Tch.setCell (S := fun k => k = T) (Tch.refl _ w4) (g := T) rfl 31 (.slice A' n' c')
  have T5 := T4.trans t5 fun _ q => .inl q
  have v5 := v4.tch t5 nT (fun _ _ q => q)
  have HK5 := Lib.hid K5
  have HKR5 := Lib.hid KR5
  have HT5 := Lib.hid T5
  have Hv5 := Lib.hid v5
  clear K4 KR4 T4 K5 KR5 t5 T5 v5 v4 b4 fr HK3 HKG3 HKR3 HT3 HV3 hT3 hR3 e5 f31 d31
  go_upto_region 25 with fail
  obtain ⟨w5, hw5⟩ : ∃ x, w4.setCell ⟨T, 31, none⟩ (.slice A' n' c') = x := ⟨_, rfl⟩
  rw [hw5] at HK5 HKR5 HT5 Hv5 ⊢
  clear hw5 g31 f31'
  have K5 := HK5.out
  have KR5 := HKR5.out
  have T5 := HT5.out
  clear HK5 HKR5 HT5
  have KF := Blk.put KR5 (opL 6 0 0 0) rfl
  have tf : Tch (fun k => k = w.heap.size + 1) w5 (World.setCells w5 (w.heap.size + 1) 0 (opL 6 0 0 0)) := Tch.setCells (S := fun k => k = w.heap.size + 1) (g := w.heap.size + 1) rfl _ _ _ (Tch.refl _ _)
  have KTF := TaskAt.tch K5 tf hne2
  have TF : Tch (fun k => k = T) w (World.setCells w5 (w.heap.size + 1) 0 (opL 6 0 0 0)) := (T5.trans tf fun _ q => .inr (by omega))
  have hKF := Lib.hid KF
  have hKTF := Lib.hid KTF
  have hTF := Lib.hid TF
  have hvF := Lib.hid (Hv5.out.tch tf nR (fun _ _ q => q))
  obtain ⟨⟨r0, r1, r2, r3, r4, r5, r6, r7, r8, r9⟩, rf⟩ := op_cells KR5
  clear KF tf KTF TF
  go_step
  go_step
  go_step
  first | go_values | go_skip | go_guarded | go_step | go_upon
  go_step
  go_step
  clear r0 r1 r2 r3 r4 r5 r6 r7 r8 r9 rf
  conv => arg 2; change World.setCells w5 (w.heap.size + 1) 0 (opL 6 0 0 0)
  obtain ⟨wF, hF⟩ : ∃ x, World.setCells w5 (w.heap.size + 1) 0 (opL 6 0 0 0) = x := ⟨_, rfl⟩
  rw [hF] at hKF hKTF hTF hvF ⊢
  clear hF
  go_wp2_with fail
  obtain ⟨⟨m0, m1, m2, m3, m4, m5, m6, m7, m8, m9⟩, _⟩ := op_cells (w := wF) (r := w.heap.size + 1) (k := 6) (a := 0) (n := 0) (id := 0) hKF.out
  refine bodyPost_ret (v := .agg (opA 6 0 0 0)) ?_ rfl ⟨rfl, ⟨_, hKTF.out, _, rfl, hvF.out, fW⟩, hTF.out⟩
  simp [results, Try.results66, go_sem, opA, m0, m1, m2, m3, m4, m5, m6, m7, m8, m9]

end Go.Proofs.Ytkhnnjeinpojkaa
