/- Getter: what is asked behind OpClosed, and behind OpRead. -/
import Derived.Test.YtkhnnjeinpojkaaGtF
namespace Go.Proofs.Ytkhnnjeinpojkaa
open Go.RowKit
set_option maxRecDepth 100000 in
set_option maxHeartbeats 4000000 in
theorem opened_1 (T : Nat) (c : Tk) (s : Ts) (cv : List Int) (ok : Bool) (gn gm : Int) (gL : Value) (gid : Int) (gV : Value) (gt : Int) (w : World) (h : TaskAt w T c s) (hv : VV w c.V cv) (hm : s.marks ≤ 4611686018427387904) (hy : openE c.k c.kk c.ef cv c.dim ok = 1)  :
    Calls Try.prog 92 #[.pointer (some ⟨T, 0, none⟩), .agg (gotL ok gn gm gL gid gV gt)] w (RetF T c w 0 0 0 0 (fun _ s' => s' = { s with marks := s.marks + 1, err := 1 })) := by
  have hT := h.lt
  have hne1 : T ≠ w.heap.size := by omega
  have hne2 : T ≠ w.heap.size + 1 := by omega
  obtain ⟨w2, hw2⟩ : ∃ x, x = ((w.alloc (.cells (gotL ok gn gm gL gid gV gt) 42)).alloc (.cells (opA 0 0 0 0) 44)) := ⟨_, rfl⟩
  have hs1 : (w.alloc (.cells (gotL ok gn gm gL gid gV gt) 42)).heap.size = w.heap.size + 1 := by simp only [World.alloc, Array.size_push]
  have K2 : TaskAt w2 T c s := by rw [hw2]; exact Blk.alloc (Blk.alloc h _) _
  have KG : Blk w2 w.heap.size 42 (gotL ok gn gm gL gid gV gt) := by rw [hw2]; exact (Blk.new w 42 (gotL ok gn gm gL gid gV gt)).alloc (.cells (opA 0 0 0 0) 44)
  have KR : Blk w2 (w.heap.size + 1) 44 (opA 0 0 0 0) := by
    have := op_new (w.alloc (.cells (gotL ok gn gm gL gid gV gt) 42)) 0 0 0 0
    rw [hs1] at this; rw [hw2]; exact this
  have b2 : Below w.heap.size w w2 := by rw [hw2]; exact ((Below.refl _ w).alloc (Nat.le_refl _) _).alloc (by rw [hs1]; omega) _
  have HT2 : Hid (Tch (fun k => k = T) w w2.drew) := (Tch.of_below b2).drewN 1
  obtain ⟨A, n, cp, hV, hn, hnil, hr⟩ := hv.below b2
  have HO := Lib.hid (gt_open c.k c.id c.tags c.kk c.ef c.dr c.dim A n cp cv ok gn gm gL gid gV gt w2.drew hr hn)
  rw [hy] at HO
  have HK2 : Hid (TaskAt w2.drew T c s) := K2
  have HKR : Hid (Blk w2.drew (w.heap.size + 1) 44 (opA 0 0 0 0)) := KR
  have c0 : w2.drew.cell? ⟨T, 0, none⟩ = some (.int .i64 c.k) := Blk.cell K2 0
  have c1 : w2.drew.cell? ⟨T, 1, none⟩ = some (.int .u64 c.id) := Blk.cell K2 1
  have c2 : w2.drew.cell? ⟨T, 2, none⟩ = some (.slice A n cp) := by rw [← hV]; exact Blk.cell K2 2
  have c3 : w2.drew.cell? ⟨T, 3, none⟩ = some (.int .u64 c.tags) := Blk.cell K2 3
  have c4 : w2.drew.cell? ⟨T, 4, none⟩ = some (.int .i64 c.kk) := Blk.cell K2 4
  have c5 : w2.drew.cell? ⟨T, 5, none⟩ = some (.int .i64 c.ef) := Blk.cell K2 5
  have c6 : w2.drew.cell? ⟨T, 6, none⟩ = some (.int .u64 c.dr) := Blk.cell K2 6
  have c7 : w2.drew.cell? ⟨T, 7, none⟩ = some (.int .i64 c.dim) := Blk.cell K2 7
  have g0 : w2.drew.cell? ⟨w.heap.size, 0, none⟩ = some (.bool ok) := KG.cell 0
  have g1 : w2.drew.cell? ⟨w.heap.size, 1, none⟩ = some (.int .i64 gn) := KG.cell 1
  have g2 : w2.drew.cell? ⟨w.heap.size, 2, none⟩ = some (.int .i64 gm) := KG.cell 2
  have g3 : w2.drew.cell? ⟨w.heap.size, 3, none⟩ = some gL := KG.cell 3
  have g4 : w2.drew.cell? ⟨w.heap.size, 4, none⟩ = some (.int .u64 gid) := KG.cell 4
  have g5 : w2.drew.cell? ⟨w.heap.size, 5, none⟩ = some gV := KG.cell 5
  have g6 : w2.drew.cell? ⟨w.heap.size, 6, none⟩ = some (.int .u64 gt) := KG.cell 6
  clear K2 KG KR b2 hs1 hnil hr hn hV h hv hy
  unfold gotL opA at hw2
  unfold gotL callL at HO
  unfold gotL
  go_enter Try.func92, Try.ntmps92
  go_wp2_with fail
  rw [← hw2]
  clear hw2
  go_region_law (go_simp; go_at_call 111; refine HO.out.mono ?_; rintro e w3 ⟨rfl, b3⟩; replace b3 := Lib.hid b3)
  all_goals
    clear c0 c1 c2 c3 c4 c5 c6 c7 g0 g1 g2 g3 g4 g5 g6 HO
    have K3 : TaskAt w3 T c s := Blk.below HK2.out b3.out (Blk.lt HK2.out)
    have KR3 : Blk w3 (w.heap.size + 1) 44 (opA 0 0 0 0) := Blk.below HKR.out b3.out (Blk.lt HKR.out)
    have T3 : Tch (fun k => k = T) w w3 := HT2.out.trans (Tch.of_below b3.out : Tch (fun k => k = T) _ _) fun _ q => .inl q
    clear HT2 HK2 HKR b3
    have HK3 := Lib.hid K3
    have HKR3 := Lib.hid KR3
    have HT3 := Lib.hid T3
    clear K3 KR3 T3
    go_wp2_with fail
    refine (gt_mark T c s 1 _ HK3.out hm).mono ?_
    rintro e w4 ⟨rfl, K4, t4⟩
    have KR4 : Blk w4 (w.heap.size + 1) 44 (opA 0 0 0 0) := HKR3.out.tch t4 (fun e => hne2 e.symm)
    have T4 : Tch (fun k => k = T) w w4 := HT3.out.trans t4 fun _ q => .inl q
    clear HK3 HKR3 HT3 t4
    have KF := Blk.put KR4 (opL 0 0 0 0) rfl
    have tf : Tch (fun k => k = w.heap.size + 1) w4 (World.setCells w4 (w.heap.size + 1) 0 (opL 0 0 0 0)) := Tch.setCells (S := fun k => k = w.heap.size + 1) (g := w.heap.size + 1) rfl _ _ _ (Tch.refl _ _)
    have KTF := TaskAt.tch K4 tf hne2
    have TF : Tch (fun k => k = T) w (World.setCells w4 (w.heap.size + 1) 0 (opL 0 0 0 0)) := (T4.trans tf fun _ q => .inr (by omega))
    have hKF := Lib.hid KF
    have hKTF := Lib.hid KTF
    have hTF := Lib.hid TF
    obtain ⟨⟨r0, r1, r2, r3, r4, r5, r6, r7, r8, r9⟩, rf⟩ := op_cells KR4
    clear KF tf KTF TF
    go_wp2_with fail
    clear r0 r1 r2 r3 r4 r5 r6 r7 r8 r9 rf
    change bodyPost _ _ _ _ _ (World.setCells w4 (w.heap.size + 1) 0 (opL 0 0 0 0))
    obtain ⟨wF, hF⟩ : ∃ x, World.setCells w4 (w.heap.size + 1) 0 (opL 0 0 0 0) = x := ⟨_, rfl⟩
    rw [hF] at hKF hKTF hTF ⊢
    obtain ⟨⟨m0, m1, m2, m3, m4, m5, m6, m7, m8, m9⟩, _⟩ := op_cells (w := wF) (r := w.heap.size + 1) (k := 0) (a := 0) (n := 0) (id := 0) hKF.out
    refine bodyPost_ret (v := .agg (opA 0 0 0 0)) ?_ rfl ⟨rfl, ⟨_, hKTF.out, rfl⟩, hTF.out⟩
    simp [results, Try.results92, go_sem, opA, m0, m1, m2, m3, m4, m5, m6, m7, m8, m9]
set_option maxRecDepth 100000 in
set_option maxHeartbeats 4000000 in
theorem opened_5 (T : Nat) (c : Tk) (s : Ts) (cv : List Int) (ok : Bool) (gn gm : Int) (gL : Value) (gid : Int) (gV : Value) (gt : Int) (w : World) (h : TaskAt w T c s) (hv : VV w c.V cv) (hm : s.marks ≤ 4611686018427387904) (hy : openE c.k c.kk c.ef cv c.dim ok = 5)  :
    Calls Try.prog 92 #[.pointer (some ⟨T, 0, none⟩), .agg (gotL ok gn gm gL gid gV gt)] w (RetF T c w 0 0 0 0 (fun _ s' => s' = { s with marks := s.marks + 1, err := 5 })) := by
  have hT := h.lt
  have hne1 : T ≠ w.heap.size := by omega
  have hne2 : T ≠ w.heap.size + 1 := by omega
  obtain ⟨w2, hw2⟩ : ∃ x, x = ((w.alloc (.cells (gotL ok gn gm gL gid gV gt) 42)).alloc (.cells (opA 0 0 0 0) 44)) := ⟨_, rfl⟩
  have hs1 : (w.alloc (.cells (gotL ok gn gm gL gid gV gt) 42)).heap.size = w.heap.size + 1 := by simp only [World.alloc, Array.size_push]
  have K2 : TaskAt w2 T c s := by rw [hw2]; exact Blk.alloc (Blk.alloc h _) _
  have KG : Blk w2 w.heap.size 42 (gotL ok gn gm gL gid gV gt) := by rw [hw2]; exact (Blk.new w 42 (gotL ok gn gm gL gid gV gt)).alloc (.cells (opA 0 0 0 0) 44)
  have KR : Blk w2 (w.heap.size + 1) 44 (opA 0 0 0 0) := by
    have := op_new (w.alloc (.cells (gotL ok gn gm gL gid gV gt) 42)) 0 0 0 0
    rw [hs1] at this; rw [hw2]; exact this
  have b2 : Below w.heap.size w w2 := by rw [hw2]; exact ((Below.refl _ w).alloc (Nat.le_refl _) _).alloc (by rw [hs1]; omega) _
  have HT2 : Hid (Tch (fun k => k = T) w w2.drew) := (Tch.of_below b2).drewN 1
  obtain ⟨A, n, cp, hV, hn, hnil, hr⟩ := hv.below b2
  have HO := Lib.hid (gt_open c.k c.id c.tags c.kk c.ef c.dr c.dim A n cp cv ok gn gm gL gid gV gt w2.drew hr hn)
  rw [hy] at HO
  have HK2 : Hid (TaskAt w2.drew T c s) := K2
  have HKR : Hid (Blk w2.drew (w.heap.size + 1) 44 (opA 0 0 0 0)) := KR
  have c0 : w2.drew.cell? ⟨T, 0, none⟩ = some (.int .i64 c.k) := Blk.cell K2 0
  have c1 : w2.drew.cell? ⟨T, 1, none⟩ = some (.int .u64 c.id) := Blk.cell K2 1
  have c2 : w2.drew.cell? ⟨T, 2, none⟩ = some (.slice A n cp) := by rw [← hV]; exact Blk.cell K2 2
  have c3 : w2.drew.cell? ⟨T, 3, none⟩ = some (.int .u64 c.tags) := Blk.cell K2 3
  have c4 : w2.drew.cell? ⟨T, 4, none⟩ = some (.int .i64 c.kk) := Blk.cell K2 4
  have c5 : w2.drew.cell? ⟨T, 5, none⟩ = some (.int .i64 c.ef) := Blk.cell K2 5
  have c6 : w2.drew.cell? ⟨T, 6, none⟩ = some (.int .u64 c.dr) := Blk.cell K2 6
  have c7 : w2.drew.cell? ⟨T, 7, none⟩ = some (.int .i64 c.dim) := Blk.cell K2 7
  have g0 : w2.drew.cell? ⟨w.heap.size, 0, none⟩ = some (.bool ok) := KG.cell 0
  have g1 : w2.drew.cell? ⟨w.heap.size, 1, none⟩ = some (.int .i64 gn) := KG.cell 1
  have g2 : w2.drew.cell? ⟨w.heap.size, 2, none⟩ = some (.int .i64 gm) := KG.cell 2
  have g3 : w2.drew.cell? ⟨w.heap.size, 3, none⟩ = some gL := KG.cell 3
  have g4 : w2.drew.cell? ⟨w.heap.size, 4, none⟩ = some (.int .u64 gid) := KG.cell 4
  have g5 : w2.drew.cell? ⟨w.heap.size, 5, none⟩ = some gV := KG.cell 5
  have g6 : w2.drew.cell? ⟨w.heap.size, 6, none⟩ = some (.int .u64 gt) := KG.cell 6
  clear K2 KG KR b2 hs1 hnil hr hn hV h hv hy
  unfold gotL opA at hw2
  unfold gotL callL at HO
  unfold gotL
  go_enter Try.func92, Try.ntmps92
  go_wp2_with fail
  rw [← hw2]
  clear hw2
  go_region_law (go_simp; go_at_call 111; refine HO.out.mono ?_; rintro e w3 ⟨rfl, b3⟩; replace b3 := Lib.hid b3)
  all_goals
    clear c0 c1 c2 c3 c4 c5 c6 c7 g0 g1 g2 g3 g4 g5 g6 HO
    have K3 : TaskAt w3 T c s := Blk.below HK2.out b3.out (Blk.lt HK2.out)
    have KR3 : Blk w3 (w.heap.size + 1) 44 (opA 0 0 0 0) := Blk.below HKR.out b3.out (Blk.lt HKR.out)
    have T3 : Tch (fun k => k = T) w w3 := HT2.out.trans (Tch.of_below b3.out : Tch (fun k => k = T) _ _) fun _ q => .inl q
    clear HT2 HK2 HKR b3
    have HK3 := Lib.hid K3
    have HKR3 := Lib.hid KR3
    have HT3 := Lib.hid T3
    clear K3 KR3 T3
    go_wp2_with fail
    refine (gt_mark T c s 5 _ HK3.out hm).mono ?_
    rintro e w4 ⟨rfl, K4, t4⟩
    have KR4 : Blk w4 (w.heap.size + 1) 44 (opA 0 0 0 0) := HKR3.out.tch t4 (fun e => hne2 e.symm)
    have T4 : Tch (fun k => k = T) w w4 := HT3.out.trans t4 fun _ q => .inl q
    clear HK3 HKR3 HT3 t4
    have KF := Blk.put KR4 (opL 0 0 0 0) rfl
    have tf : Tch (fun k => k = w.heap.size + 1) w4 (World.setCells w4 (w.heap.size + 1) 0 (opL 0 0 0 0)) := Tch.setCells (S := fun k => k = w.heap.size + 1) (g := w.heap.size + 1) rfl _ _ _ (Tch.refl _ _)
    have KTF := TaskAt.tch K4 tf hne2
    have TF : Tch (fun k => k = T) w (World.setCells w4 (w.heap.size + 1) 0 (opL 0 0 0 0)) := (T4.trans tf fun _ q => .inr (by omega))
    have hKF := Lib.hid KF
    have hKTF := Lib.hid KTF
    have hTF := Lib.hid TF
    obtain ⟨⟨r0, r1, r2, r3, r4, r5, r6, r7, r8, r9⟩, rf⟩ := op_cells KR4
    clear KF tf KTF TF
    go_wp2_with fail
    clear r0 r1 r2 r3 r4 r5 r6 r7 r8 r9 rf
    change bodyPost _ _ _ _ _ (World.setCells w4 (w.heap.size + 1) 0 (opL 0 0 0 0))
    obtain ⟨wF, hF⟩ : ∃ x, World.setCells w4 (w.heap.size + 1) 0 (opL 0 0 0 0) = x := ⟨_, rfl⟩
    rw [hF] at hKF hKTF hTF ⊢
    obtain ⟨⟨m0, m1, m2, m3, m4, m5, m6, m7, m8, m9⟩, _⟩ := op_cells (w := wF) (r := w.heap.size + 1) (k := 0) (a := 0) (n := 0) (id := 0) hKF.out
    refine bodyPost_ret (v := .agg (opA 0 0 0 0)) ?_ rfl ⟨rfl, ⟨_, hKTF.out, rfl⟩, hTF.out⟩
    simp [results, Try.results92, go_sem, opA, m0, m1, m2, m3, m4, m5, m6, m7, m8, m9]
set_option maxRecDepth 100000 in
set_option maxHeartbeats 4000000 in
theorem opened_len (T : Nat) (c : Tk) (s : Ts) (cv : List Int) (ok : Bool) (gn gm : Int) (gL : Value) (gid : Int) (gV : Value) (gt : Int) (w : World) (h : TaskAt w T c s) (hv : VV w c.V cv) (_hm : s.marks ≤ 4611686018427387904) (hy : openE c.k c.kk c.ef cv c.dim ok = 0) (hck : c.k = 5) :
    Calls Try.prog 92 #[.pointer (some ⟨T, 0, none⟩), .agg (gotL ok gn gm gL gid gV gt)] w (RetF T c w 18 0 0 0 (fun _ s' => s' = s)) := by
  have hT := h.lt
  have hne1 : T ≠ w.heap.size := by omega
  have hne2 : T ≠ w.heap.size + 1 := by omega
  obtain ⟨w2, hw2⟩ : ∃ x, x = ((w.alloc (.cells (gotL ok gn gm gL gid gV gt) 42)).alloc (.cells (opA 0 0 0 0) 44)) := ⟨_, rfl⟩
  have hs1 : (w.alloc (.cells (gotL ok gn gm gL gid gV gt) 42)).heap.size = w.heap.size + 1 := by simp only [World.alloc, Array.size_push]
  have K2 : TaskAt w2 T c s := by rw [hw2]; exact Blk.alloc (Blk.alloc h _) _
  have KG : Blk w2 w.heap.size 42 (gotL ok gn gm gL gid gV gt) := by rw [hw2]; exact (Blk.new w 42 (gotL ok gn gm gL gid gV gt)).alloc (.cells (opA 0 0 0 0) 44)
  have KR : Blk w2 (w.heap.size + 1) 44 (opA 0 0 0 0) := by
    have := op_new (w.alloc (.cells (gotL ok gn gm gL gid gV gt) 42)) 0 0 0 0
    rw [hs1] at this; rw [hw2]; exact this
  have b2 : Below w.heap.size w w2 := by rw [hw2]; exact ((Below.refl _ w).alloc (Nat.le_refl _) _).alloc (by rw [hs1]; omega) _
  have HT2 : Hid (Tch (fun k => k = T) w w2.drew) := (Tch.of_below b2).drewN 1
  obtain ⟨A, n, cp, hV, hn, hnil, hr⟩ := hv.below b2
  have HO := Lib.hid (gt_open c.k c.id c.tags c.kk c.ef c.dr c.dim A n cp cv ok gn gm gL gid gV gt w2.drew hr hn)
  rw [hy] at HO
  have HK2 : Hid (TaskAt w2.drew T c s) := K2
  have HKR : Hid (Blk w2.drew (w.heap.size + 1) 44 (opA 0 0 0 0)) := KR
  have c0 : w2.drew.cell? ⟨T, 0, none⟩ = some (.int .i64 c.k) := Blk.cell K2 0
  have c1 : w2.drew.cell? ⟨T, 1, none⟩ = some (.int .u64 c.id) := Blk.cell K2 1
  have c2 : w2.drew.cell? ⟨T, 2, none⟩ = some (.slice A n cp) := by rw [← hV]; exact Blk.cell K2 2
  have c3 : w2.drew.cell? ⟨T, 3, none⟩ = some (.int .u64 c.tags) := Blk.cell K2 3
  have c4 : w2.drew.cell? ⟨T, 4, none⟩ = some (.int .i64 c.kk) := Blk.cell K2 4
  have c5 : w2.drew.cell? ⟨T, 5, none⟩ = some (.int .i64 c.ef) := Blk.cell K2 5
  have c6 : w2.drew.cell? ⟨T, 6, none⟩ = some (.int .u64 c.dr) := Blk.cell K2 6
  have c7 : w2.drew.cell? ⟨T, 7, none⟩ = some (.int .i64 c.dim) := Blk.cell K2 7
  have g0 : w2.drew.cell? ⟨w.heap.size, 0, none⟩ = some (.bool ok) := KG.cell 0
  have g1 : w2.drew.cell? ⟨w.heap.size, 1, none⟩ = some (.int .i64 gn) := KG.cell 1
  have g2 : w2.drew.cell? ⟨w.heap.size, 2, none⟩ = some (.int .i64 gm) := KG.cell 2
  have g3 : w2.drew.cell? ⟨w.heap.size, 3, none⟩ = some gL := KG.cell 3
  have g4 : w2.drew.cell? ⟨w.heap.size, 4, none⟩ = some (.int .u64 gid) := KG.cell 4
  have g5 : w2.drew.cell? ⟨w.heap.size, 5, none⟩ = some gV := KG.cell 5
  have g6 : w2.drew.cell? ⟨w.heap.size, 6, none⟩ = some (.int .u64 gt) := KG.cell 6
  clear K2 KG KR b2 hs1 hnil hr hn hV h hv hy
  have HCK := Lib.hid hck
  clear hck
  unfold gotL opA at hw2
  unfold gotL callL at HO
  unfold gotL
  go_enter Try.func92, Try.ntmps92
  go_wp2_with fail
  rw [← hw2]
  clear hw2
  go_region_law (go_simp; go_at_call 111; refine HO.out.mono ?_; rintro e w3 ⟨rfl, b3⟩; replace b3 := Lib.hid b3)
  all_goals
    clear c0 c1 c2 c3 c4 c5 c6 c7 g0 g1 g2 g3 g4 g5 g6 HO
    have K3 : TaskAt w3 T c s := Blk.below HK2.out b3.out (Blk.lt HK2.out)
    have KR3 : Blk w3 (w.heap.size + 1) 44 (opA 0 0 0 0) := Blk.below HKR.out b3.out (Blk.lt HKR.out)
    have T3 : Tch (fun k => k = T) w w3 := HT2.out.trans (Tch.of_below b3.out : Tch (fun k => k = T) _ _) fun _ q => .inl q
    clear HT2 HK2 HKR b3
    have c0 : w3.cell? ⟨T, 0, none⟩ = some (.int .i64 5) := by rw [← HCK.out]; exact Blk.cell K3 0
    clear HCK
    have KF := Blk.put KR3 (opL 18 0 0 0) rfl
    have tf : Tch (fun k => k = w.heap.size + 1) w3 (World.setCells w3 (w.heap.size + 1) 0 (opL 18 0 0 0)) := Tch.setCells (S := fun k => k = w.heap.size + 1) (g := w.heap.size + 1) rfl _ _ _ (Tch.refl _ _)
    have KTF := TaskAt.tch K3 tf hne2
    have TF : Tch (fun k => k = T) w (World.setCells w3 (w.heap.size + 1) 0 (opL 18 0 0 0)) := (T3.trans tf fun _ q => .inr (by omega))
    have hKF := Lib.hid KF
    have hKTF := Lib.hid KTF
    have hTF := Lib.hid TF
    obtain ⟨⟨r0, r1, r2, r3, r4, r5, r6, r7, r8, r9⟩, rf⟩ := op_cells KR3
    clear KF tf KTF TF
    go_wp2_with fail
    clear r0 r1 r2 r3 r4 r5 r6 r7 r8 r9 rf
    change bodyPost _ _ _ _ _ (World.setCells w3 (w.heap.size + 1) 0 (opL 18 0 0 0))
    obtain ⟨wF, hF⟩ : ∃ x, World.setCells w3 (w.heap.size + 1) 0 (opL 18 0 0 0) = x := ⟨_, rfl⟩
    rw [hF] at hKF hKTF hTF ⊢
    obtain ⟨⟨m0, m1, m2, m3, m4, m5, m6, m7, m8, m9⟩, _⟩ := op_cells (w := wF) (r := w.heap.size + 1) (k := 18) (a := 0) (n := 0) (id := 0) hKF.out
    refine bodyPost_ret (v := .agg (opA 18 0 0 0)) ?_ rfl ⟨rfl, ⟨_, hKTF.out, rfl⟩, hTF.out⟩
    simp [results, Try.results92, go_sem, opA, m0, m1, m2, m3, m4, m5, m6, m7, m8, m9]
set_option maxRecDepth 100000 in
set_option maxHeartbeats 4000000 in
theorem opened_get (T : Nat) (c : Tk) (s : Ts) (cv : List Int) (ok : Bool) (gn gm : Int) (gL : Value) (gid : Int) (gV : Value) (gt : Int) (w : World) (h : TaskAt w T c s) (hv : VV w c.V cv) (_hm : s.marks ≤ 4611686018427387904) (hy : openE c.k c.kk c.ef cv c.dim ok = 0) (hck : c.k = 3) :
    Calls Try.prog 92 #[.pointer (some ⟨T, 0, none⟩), .agg (gotL ok gn gm gL gid gV gt)] w (RetF T c w 3 0 0 0 (fun _ s' => s' = s)) := by
  have hT := h.lt
  have hne1 : T ≠ w.heap.size := by omega
  have hne2 : T ≠ w.heap.size + 1 := by omega
  obtain ⟨w2, hw2⟩ : ∃ x, x = ((w.alloc (.cells (gotL ok gn gm gL gid gV gt) 42)).alloc (.cells (opA 0 0 0 0) 44)) := ⟨_, rfl⟩
  have hs1 : (w.alloc (.cells (gotL ok gn gm gL gid gV gt) 42)).heap.size = w.heap.size + 1 := by simp only [World.alloc, Array.size_push]
  have K2 : TaskAt w2 T c s := by rw [hw2]; exact Blk.alloc (Blk.alloc h _) _
  have KG : Blk w2 w.heap.size 42 (gotL ok gn gm gL gid gV gt) := by rw [hw2]; exact (Blk.new w 42 (gotL ok gn gm gL gid gV gt)).alloc (.cells (opA 0 0 0 0) 44)
  have KR : Blk w2 (w.heap.size + 1) 44 (opA 0 0 0 0) := by
    have := op_new (w.alloc (.cells (gotL ok gn gm gL gid gV gt) 42)) 0 0 0 0
    rw [hs1] at this; rw [hw2]; exact this
  have b2 : Below w.heap.size w w2 := by rw [hw2]; exact ((Below.refl _ w).alloc (Nat.le_refl _) _).alloc (by rw [hs1]; omega) _
  have HT2 : Hid (Tch (fun k => k = T) w w2.drew) := (Tch.of_below b2).drewN 1
  obtain ⟨A, n, cp, hV, hn, hnil, hr⟩ := hv.below b2
  have HO := Lib.hid (gt_open c.k c.id c.tags c.kk c.ef c.dr c.dim A n cp cv ok gn gm gL gid gV gt w2.drew hr hn)
  rw [hy] at HO
  have HK2 : Hid (TaskAt w2.drew T c s) := K2
  have HKR : Hid (Blk w2.drew (w.heap.size + 1) 44 (opA 0 0 0 0)) := KR
  have c0 : w2.drew.cell? ⟨T, 0, none⟩ = some (.int .i64 c.k) := Blk.cell K2 0
  have c1 : w2.drew.cell? ⟨T, 1, none⟩ = some (.int .u64 c.id) := Blk.cell K2 1
  have c2 : w2.drew.cell? ⟨T, 2, none⟩ = some (.slice A n cp) := by rw [← hV]; exact Blk.cell K2 2
  have c3 : w2.drew.cell? ⟨T, 3, none⟩ = some (.int .u64 c.tags) := Blk.cell K2 3
  have c4 : w2.drew.cell? ⟨T, 4, none⟩ = some (.int .i64 c.kk) := Blk.cell K2 4
  have c5 : w2.drew.cell? ⟨T, 5, none⟩ = some (.int .i64 c.ef) := Blk.cell K2 5
  have c6 : w2.drew.cell? ⟨T, 6, none⟩ = some (.int .u64 c.dr) := Blk.cell K2 6
  have c7 : w2.drew.cell? ⟨T, 7, none⟩ = some (.int .i64 c.dim) := Blk.cell K2 7
  have g0 : w2.drew.cell? ⟨w.heap.size, 0, none⟩ = some (.bool ok) := KG.cell 0
  have g1 : w2.drew.cell? ⟨w.heap.size, 1, none⟩ = some (.int .i64 gn) := KG.cell 1
  have g2 : w2.drew.cell? ⟨w.heap.size, 2, none⟩ = some (.int .i64 gm) := KG.cell 2
  have g3 : w2.drew.cell? ⟨w.heap.size, 3, none⟩ = some gL := KG.cell 3
  have g4 : w2.drew.cell? ⟨w.heap.size, 4, none⟩ = some (.int .u64 gid) := KG.cell 4
  have g5 : w2.drew.cell? ⟨w.heap.size, 5, none⟩ = some gV := KG.cell 5
  have g6 : w2.drew.cell? ⟨w.heap.size, 6, none⟩ = some (.int .u64 gt) := KG.cell 6
  clear K2 KG KR b2 hs1 hnil hr hn hV h hv hy
  have HCK := Lib.hid hck
  clear hck
  unfold gotL opA at hw2
  unfold gotL callL at HO
  unfold gotL
  go_enter Try.func92, Try.ntmps92
  go_wp2_with fail
  rw [← hw2]
  clear hw2
  go_region_law (go_simp; go_at_call 111; refine HO.out.mono ?_; rintro e w3 ⟨rfl, b3⟩; replace b3 := Lib.hid b3)
  all_goals
    clear c0 c1 c2 c3 c4 c5 c6 c7 g0 g1 g2 g3 g4 g5 g6 HO
    have K3 : TaskAt w3 T c s := Blk.below HK2.out b3.out (Blk.lt HK2.out)
    have KR3 : Blk w3 (w.heap.size + 1) 44 (opA 0 0 0 0) := Blk.below HKR.out b3.out (Blk.lt HKR.out)
    have T3 : Tch (fun k => k = T) w w3 := HT2.out.trans (Tch.of_below b3.out : Tch (fun k => k = T) _ _) fun _ q => .inl q
    clear HT2 HK2 HKR b3
    have c0 : w3.cell? ⟨T, 0, none⟩ = some (.int .i64 3) := by rw [← HCK.out]; exact Blk.cell K3 0
    clear HCK
    have KF := Blk.put KR3 (opL 3 0 0 0) rfl
    have tf : Tch (fun k => k = w.heap.size + 1) w3 (World.setCells w3 (w.heap.size + 1) 0 (opL 3 0 0 0)) := Tch.setCells (S := fun k => k = w.heap.size + 1) (g := w.heap.size + 1) rfl _ _ _ (Tch.refl _ _)
    have KTF := TaskAt.tch K3 tf hne2
    have TF : Tch (fun k => k = T) w (World.setCells w3 (w.heap.size + 1) 0 (opL 3 0 0 0)) := (T3.trans tf fun _ q => .inr (by omega))
    have hKF := Lib.hid KF
    have hKTF := Lib.hid KTF
    have hTF := Lib.hid TF
    obtain ⟨⟨r0, r1, r2, r3, r4, r5, r6, r7, r8, r9⟩, rf⟩ := op_cells KR3
    clear KF tf KTF TF
    go_wp2_with fail
    clear r0 r1 r2 r3 r4 r5 r6 r7 r8 r9 rf
    change bodyPost _ _ _ _ _ (World.setCells w3 (w.heap.size + 1) 0 (opL 3 0 0 0))
    obtain ⟨wF, hF⟩ : ∃ x, World.setCells w3 (w.heap.size + 1) 0 (opL 3 0 0 0) = x := ⟨_, rfl⟩
    rw [hF] at hKF hKTF hTF ⊢
    obtain ⟨⟨m0, m1, m2, m3, m4, m5, m6, m7, m8, m9⟩, _⟩ := op_cells (w := wF) (r := w.heap.size + 1) (k := 3) (a := 0) (n := 0) (id := 0) hKF.out
    refine bodyPost_ret (v := .agg (opA 3 0 0 0)) ?_ rfl ⟨rfl, ⟨_, hKTF.out, rfl⟩, hTF.out⟩
    simp [results, Try.results92, go_sem, opA, m0, m1, m2, m3, m4, m5, m6, m7, m8, m9]
set_option maxRecDepth 100000 in
set_option maxHeartbeats 4000000 in
theorem opened_bad (T : Nat) (c : Tk) (s : Ts) (cv : List Int) (ok : Bool) (gn gm : Int) (gL : Value) (gid : Int) (gV : Value) (gt : Int) (w : World) (h : TaskAt w T c s) (hv : VV w c.V cv) (hm : s.marks ≤ 4611686018427387904) (hy : openE c.k c.kk c.ef cv c.dim ok = 0) (k5 : (c.k == 5) = false) (k3 : (c.k == 3) = false) :
    Calls Try.prog 92 #[.pointer (some ⟨T, 0, none⟩), .agg (gotL ok gn gm gL gid gV gt)] w (RetF T c w 0 0 0 0 (fun _ s' => s' = { s with marks := s.marks + 1, err := 1 })) := by
  have hT := h.lt
  have hne1 : T ≠ w.heap.size := by omega
  have hne2 : T ≠ w.heap.size + 1 := by omega
  obtain ⟨w2, hw2⟩ : ∃ x, x = ((w.alloc (.cells (gotL ok gn gm gL gid gV gt) 42)).alloc (.cells (opA 0 0 0 0) 44)) := ⟨_, rfl⟩
  have hs1 : (w.alloc (.cells (gotL ok gn gm gL gid gV gt) 42)).heap.size = w.heap.size + 1 := by simp only [World.alloc, Array.size_push]
  have K2 : TaskAt w2 T c s := by rw [hw2]; exact Blk.alloc (Blk.alloc h _) _
  have KG : Blk w2 w.heap.size 42 (gotL ok gn gm gL gid gV gt) := by rw [hw2]; exact (Blk.new w 42 (gotL ok gn gm gL gid gV gt)).alloc (.cells (opA 0 0 0 0) 44)
  have KR : Blk w2 (w.heap.size + 1) 44 (opA 0 0 0 0) := by
    have := op_new (w.alloc (.cells (gotL ok gn gm gL gid gV gt) 42)) 0 0 0 0
    rw [hs1] at this; rw [hw2]; exact this
  have b2 : Below w.heap.size w w2 := by rw [hw2]; exact ((Below.refl _ w).alloc (Nat.le_refl _) _).alloc (by rw [hs1]; omega) _
  have HT2 : Hid (Tch (fun k => k = T) w w2.drew) := (Tch.of_below b2).drewN 1
  obtain ⟨A, n, cp, hV, hn, hnil, hr⟩ := hv.below b2
  have HO := Lib.hid (gt_open c.k c.id c.tags c.kk c.ef c.dr c.dim A n cp cv ok gn gm gL gid gV gt w2.drew hr hn)
  rw [hy] at HO
  have HK2 : Hid (TaskAt w2.drew T c s) := K2
  have HKR : Hid (Blk w2.drew (w.heap.size + 1) 44 (opA 0 0 0 0)) := KR
  have c0 : w2.drew.cell? ⟨T, 0, none⟩ = some (.int .i64 c.k) := Blk.cell K2 0
  have c1 : w2.drew.cell? ⟨T, 1, none⟩ = some (.int .u64 c.id) := Blk.cell K2 1
  have c2 : w2.drew.cell? ⟨T, 2, none⟩ = some (.slice A n cp) := by rw [← hV]; exact Blk.cell K2 2
  have c3 : w2.drew.cell? ⟨T, 3, none⟩ = some (.int .u64 c.tags) := Blk.cell K2 3
  have c4 : w2.drew.cell? ⟨T, 4, none⟩ = some (.int .i64 c.kk) := Blk.cell K2 4
  have c5 : w2.drew.cell? ⟨T, 5, none⟩ = some (.int .i64 c.ef) := Blk.cell K2 5
  have c6 : w2.drew.cell? ⟨T, 6, none⟩ = some (.int .u64 c.dr) := Blk.cell K2 6
  have c7 : w2.drew.cell? ⟨T, 7, none⟩ = some (.int .i64 c.dim) := Blk.cell K2 7
  have g0 : w2.drew.cell? ⟨w.heap.size, 0, none⟩ = some (.bool ok) := KG.cell 0
  have g1 : w2.drew.cell? ⟨w.heap.size, 1, none⟩ = some (.int .i64 gn) := KG.cell 1
  have g2 : w2.drew.cell? ⟨w.heap.size, 2, none⟩ = some (.int .i64 gm) := KG.cell 2
  have g3 : w2.drew.cell? ⟨w.heap.size, 3, none⟩ = some gL := KG.cell 3
  have g4 : w2.drew.cell? ⟨w.heap.size, 4, none⟩ = some (.int .u64 gid) := KG.cell 4
  have g5 : w2.drew.cell? ⟨w.heap.size, 5, none⟩ = some gV := KG.cell 5
  have g6 : w2.drew.cell? ⟨w.heap.size, 6, none⟩ = some (.int .u64 gt) := KG.cell 6
  clear K2 KG KR b2 hs1 hnil hr hn hV h hv hy
  unfold gotL opA at hw2
  unfold gotL callL at HO
  unfold gotL
  go_enter Try.func92, Try.ntmps92
  go_wp2_with fail
  rw [← hw2]
  clear hw2
  go_region_law (go_simp; go_at_call 111; refine HO.out.mono ?_; rintro e w3 ⟨rfl, b3⟩; replace b3 := Lib.hid b3)
  all_goals
    clear c0 c1 c2 c3 c4 c5 c6 c7 g0 g1 g2 g3 g4 g5 g6 HO
    have K3 : TaskAt w3 T c s := Blk.below HK2.out b3.out (Blk.lt HK2.out)
    have KR3 : Blk w3 (w.heap.size + 1) 44 (opA 0 0 0 0) := Blk.below HKR.out b3.out (Blk.lt HKR.out)
    have T3 : Tch (fun k => k = T) w w3 := HT2.out.trans (Tch.of_below b3.out : Tch (fun k => k = T) _ _) fun _ q => .inl q
    clear HT2 HK2 HKR b3
    have c0 : w3.cell? ⟨T, 0, none⟩ = some (.int .i64 c.k) := Blk.cell K3 0
    have HK3 := Lib.hid K3
    have HKR3 := Lib.hid KR3
    have HT3 := Lib.hid T3
    clear K3 KR3 T3
    go_wp2_with fail
    refine (gt_mark T c s 1 _ HK3.out hm).mono ?_
    rintro e w4 ⟨rfl, K4, t4⟩
    have KR4 : Blk w4 (w.heap.size + 1) 44 (opA 0 0 0 0) := HKR3.out.tch t4 (fun e => hne2 e.symm)
    have T4 : Tch (fun k => k = T) w w4 := HT3.out.trans t4 fun _ q => .inl q
    clear HK3 HKR3 HT3 t4 c0
    have KF := Blk.put KR4 (opL 0 0 0 0) rfl
    have tf : Tch (fun k => k = w.heap.size + 1) w4 (World.setCells w4 (w.heap.size + 1) 0 (opL 0 0 0 0)) := Tch.setCells (S := fun k => k = w.heap.size + 1) (g := w.heap.size + 1) rfl _ _ _ (Tch.refl _ _)
    have KTF := TaskAt.tch K4 tf hne2
    have TF : Tch (fun k => k = T) w (World.setCells w4 (w.heap.size + 1) 0 (opL 0 0 0 0)) := (T4.trans tf fun _ q => .inr (by omega))
    have hKF := Lib.hid KF
    have hKTF := Lib.hid KTF
    have hTF := Lib.hid TF
    obtain ⟨⟨r0, r1, r2, r3, r4, r5, r6, r7, r8, r9⟩, rf⟩ := op_cells KR4
    clear KF tf KTF TF
    go_wp2_with fail
    clear r0 r1 r2 r3 r4 r5 r6 r7 r8 r9 rf
    change bodyPost _ _ _ _ _ (World.setCells w4 (w.heap.size + 1) 0 (opL 0 0 0 0))
    obtain ⟨wF, hF⟩ : ∃ x, World.setCells w4 (w.heap.size + 1) 0 (opL 0 0 0 0) = x := ⟨_, rfl⟩
    rw [hF] at hKF hKTF hTF ⊢
    obtain ⟨⟨m0, m1, m2, m3, m4, m5, m6, m7, m8, m9⟩, _⟩ := op_cells (w := wF) (r := w.heap.size + 1) (k := 0) (a := 0) (n := 0) (id := 0) hKF.out
    refine bodyPost_ret (v := .agg (opA 0 0 0 0)) ?_ rfl ⟨rfl, ⟨_, hKTF.out, rfl⟩, hTF.out⟩
    simp [results, Try.results92, go_sem, opA, m0, m1, m2, m3, m4, m5, m6, m7, m8, m9]
end Go.Proofs.Ytkhnnjeinpojkaa
