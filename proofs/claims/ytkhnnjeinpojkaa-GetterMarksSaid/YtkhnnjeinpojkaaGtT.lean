/- Getter: the document's Next behind OpClosed, and behind OpEpoch. -/
import Derived.Test.YtkhnnjeinpojkaaGtS
namespace Go.Proofs.Ytkhnnjeinpojkaa
open Go.RowKit
theorem callT : (Try.prog.info? 27).map (·.size) = some 7 := by kernel_rfl
theorem gotT : (Try.prog.info? 42).map (·.size) = some 7 := by kernel_rfl
theorem doc_call {w : World} {g t : Nat} {c : Tk} {x : AS} {TV : Value} (h : Blk w g t (docA c x TV)) : (Instr.loadAt 27 (.pointer (some ⟨g, 0, none⟩))).run Try.prog w = .ok (.agg (callL c.k c.id c.V c.tags c.kk c.ef c.dr)) w :=
  row_load_mid h 0 (callL c.k c.id c.V c.tags c.kk c.ef c.dr) rfl Try.underlying27 rfl callT
theorem got_load {w : World} {g t : Nat} {ok : Bool} {gn gm : Int} {gL : Value} {gid : Int} {gV : Value} {gt : Int} (h : Blk w g t (gotL ok gn gm gL gid gV gt)) : (Instr.loadAt 42 (.pointer (some ⟨g, 0, none⟩))).run Try.prog w = .ok (.agg (gotL ok gn gm gL gid gV gt)) w :=
  row_load h Try.underlying42 rfl gotT
theorem VV.oneCell {w : World} {V : Value} {vec : List Int} (h : VV w V vec) : V.oneCell' = true := by
  obtain ⟨A, n, c, rfl, _⟩ := h
  rfl
set_option maxRecDepth 100000 in
set_option maxHeartbeats 4000000 in
theorem nx_1_1 (c : Tk) (x : AS) (TV : Value) (ok : Bool) (gn gm : Int) (gL : Value) (gid : Int) (gV : Value) (gt : Int) (w : World) (hx : x.Ok) (hV : c.V.oneCell' = true) (hT : TV.oneCell' = true) (hpc : x.pc = 1) (cv : List Int) (hv : VV w c.V cv) (hy : openE c.k c.kk c.ef cv c.dim ok = 1)  :
    Calls Try.prog 14 #[.agg (docA c x TV), .agg (gotL ok gn gm gL gid gV gt)] w (RetD c (({ x with marks := x.marks + 1, err := 1 } : AS).ask 9 0 0 0 0) TV false w) := by
  obtain ⟨w1, hw1⟩ : ∃ y, (((w.alloc (.cells (docA c x TV) 39)).alloc (.cells (gotL ok gn gm gL gid (gV) gt) 42)).alloc (.cells docZ 39)).alloc (.cells opZ 44) = y := ⟨_, rfl⟩
  have s1 : (w.alloc (.cells (docA c x TV) 39)).heap.size = w.heap.size + 1 := by simp only [World.alloc, Array.size_push]
  have s2 : ((w.alloc (.cells (docA c x TV) 39)).alloc (.cells (gotL ok gn gm gL gid (gV) gt) 42)).heap.size = w.heap.size + 1 + 1 := by simp only [World.alloc, Array.size_push]
  have s3 : (((w.alloc (.cells (docA c x TV) 39)).alloc (.cells (gotL ok gn gm gL gid (gV) gt) 42)).alloc (.cells docZ 39)).heap.size = w.heap.size + 1 + 1 + 1 := by simp only [World.alloc, Array.size_push]
  have D1 : Blk w1 w.heap.size 39 (docA c x TV) := by rw [← hw1]; exact (((Blk.new _ _ _).alloc _).alloc _).alloc _
  have G1 : Blk w1 (w.heap.size + 1) 42 (gotL ok gn gm gL gid (gV) gt) := by rw [← hw1, ← s1]; exact ((Blk.new _ _ _).alloc _).alloc _
  have Z1 : Blk w1 (w.heap.size + 1 + 1) 39 docZ := by rw [← hw1, ← s2]; exact (Blk.new _ _ _).alloc _
  have O1 : Blk w1 (w.heap.size + 1 + 1 + 1) 44 opZ := by rw [← hw1, ← s3]; exact Blk.new _ _ _
  have b1 : Below w.heap.size w w1 := by rw [← hw1]; exact ((((Below.refl _ w).alloc (Nat.le_refl _) _).alloc (by rw [s1]; omega) _).alloc (by rw [s2]; omega) _).alloc (by rw [s3]; omega) _
  have c8 : w1.cell? ⟨w.heap.size, 8, none⟩ = some (.int .i64 1) := by
    have q : w1.cell? ⟨w.heap.size, 8, none⟩ = some (Value.int .i64 (x.pc : Int)) := D1.cell 8
    rw [hpc] at q; exact q
  clear s1 s2 s3
  have hT' := hT
  have LC := doc_call D1
  have LG := got_load G1
  have c7 : w1.cell? ⟨w.heap.size, 7, none⟩ = some (.int .i64 c.dim) := D1.cell 7
  obtain ⟨A, n, cp, hVe, hn, hnil, hr⟩ := hv.below b1
  have HV := Lib.hid (ref_open c.k c.id c.tags c.kk c.ef c.dr c.dim A n cp cv ok gn gm gL gid gV gt w1 hr hn)
  rw [hy, ← hVe] at HV
  have HD1 := Lib.hid D1
  have HZ1 := Lib.hid Z1
  have HO1 := Lib.hid O1
  have HB1 := Lib.hid b1
  have hm : x.marks = 0 := by rw [hx.marks, if_pos (by omega)]
  clear G1 D1 Z1 O1 b1 hr hnil hn hVe hx hpc hv hy
  unfold docZ opZ at hw1
  go_enter Try.func14, Try.ntmps14
  go_upto_region 1 with fail
  (try rw [hw1])
  clear hw1
  go_wp2_with (first | refine wpList_loadE LC _ rfl rfl rfl ?_ | refine wpList_loadE LG _ rfl rfl rfl ?_)
  refine HV.out.mono ?_
  rintro e w2 ⟨rfl, b2'⟩
  have D2 := Blk.below HD1.out b2' HD1.out.lt
  have Z2 := Blk.below HZ1.out b2' HZ1.out.lt
  have O2 := Blk.below HO1.out b2' HO1.out.lt
  have b2 := HB1.out.trans (b2'.mono HB1.out.size)
  have k0 : w2.cell? ⟨w.heap.size, 0, none⟩ = some (.int .i64 c.k) := D2.cell 0
  have f2 := D2.frozen
  have e9 : w2.cell? ⟨w.heap.size, 9, none⟩ = some (.int .i64 0) := by
    have q : w2.cell? ⟨w.heap.size, 9, none⟩ = some (Value.int .i64 (x.marks : Int)) := D2.cell 9
    rw [hm] at q; exact q
  have e18 : w2.cell? ⟨w.heap.size, 18, none⟩ = some (.int .i64 x.err) := D2.cell 18
  have D2s0 : Blk (w2.setCell ⟨w.heap.size, 9, none⟩ (.int .i64 1)) w.heap.size 39 (docA c { x with marks := x.marks + 1 } TV) := by
    have := D2.set_ 9 (.int .i64 1)
    rw [docA_mark1 c x TV hm] at this; exact this
  have D2s1 : Blk ((w2.setCell ⟨w.heap.size, 9, none⟩ (.int .i64 1)).setCell ⟨w.heap.size, 18, none⟩ (.int .i64 1)) w.heap.size 39 (docA c { x with marks := x.marks + 1, err := 1 } TV) := by
    have := D2s0.set_ 18 (.int .i64 1)
    rw [docA_err] at this; exact this
  have Z3 : Blk ((w2.setCell ⟨w.heap.size, 9, none⟩ (.int .i64 1)).setCell ⟨w.heap.size, 18, none⟩ (.int .i64 1)) (w.heap.size + 1 + 1) 39 docZ := Z2.tch (Tch.setCell (S := fun k => k = w.heap.size) (Tch.setCell (S := fun k => k = w.heap.size) (Tch.refl _ w2) (g := w.heap.size) rfl 9 _) (g := w.heap.size) rfl 18 _) (by omega)
  have O3 : Blk ((w2.setCell ⟨w.heap.size, 9, none⟩ (.int .i64 1)).setCell ⟨w.heap.size, 18, none⟩ (.int .i64 1)) (w.heap.size + 1 + 1 + 1) 44 opZ := O2.tch (Tch.setCell (S := fun k => k = w.heap.size) (Tch.setCell (S := fun k => k = w.heap.size) (Tch.refl _ w2) (g := w.heap.size) rfl 9 _) (g := w.heap.size) rfl 18 _) (by omega)
  have b3 : Below w.heap.size w ((w2.setCell ⟨w.heap.size, 9, none⟩ (.int .i64 1)).setCell ⟨w.heap.size, 18, none⟩ (.int .i64 1)) := b2.trans ((Tch.setCell (S := fun k => k = w.heap.size) (Tch.setCell (S := fun k => k = w.heap.size) (Tch.refl _ w2) (g := w.heap.size) rfl 9 _) (g := w.heap.size) rfl 18 _).below b2.size (fun k q => by omega))
  have D3 := D2s1
  obtain ⟨w3, hw3⟩ : ∃ y, ((w2.setCell ⟨w.heap.size, 9, none⟩ (.int .i64 1)).setCell ⟨w.heap.size, 18, none⟩ (.int .i64 1)) = y := ⟨_, rfl⟩
  rw [hw3] at D3 Z3 O3 b3
  clear HD1 HZ1 HO1 HB1 b2' LC LG c7 c8 HV
  have L3 := doc_load D3
  have HC := Lib.hid (rf_over c { x with marks := x.marks + 1, err := 1 } TV w3 hV hT')
  have HZ := Lib.hid Z3
  have HO := Lib.hid O3
  have HB := Lib.hid b3
  clear D3 Z3 O3 b3
  clear D2s0 D2s1 D2 Z2 O2 b2 hm
  go_wp2_with (refine wpList_loadE L3 _ rfl rfl rfl ?_)
  refine HC.out.mono ?_
  rintro e w' ⟨rfl, b'⟩
  obtain ⟨w3', w4', S2, S3, HD4, HO4, HB4, _⟩ := nx_tail c (({ x with marks := x.marks + 1, err := 1 } : AS).ask 9 0 0 0 0) TV hV hT' HZ.out HO.out HB.out b'
  clear HC HZ HO HB b' L3 hV hT hT'
  go_wp2_with (first | refine wpList_storeE S2 _ _ rfl rfl rfl rfl ?_ | refine wpList_storeE S3 _ _ rfl rfl rfl rfl ?_)
  refine bodyPost_ret (v := .tuple #[.agg (docA c (({ x with marks := x.marks + 1, err := 1 } : AS).ask 9 0 0 0 0) TV), .agg (opX (({ x with marks := x.marks + 1, err := 1 } : AS).ask 9 0 0 0 0)), .bool false]) ?_ rfl ⟨rfl, HB4.out⟩
  exact results_rows2 (P := Try.prog) Try.results14 _ rfl rfl HD4.out HO4.out Try.underlying39 rfl docT Try.underlying44 rfl opT
set_option maxRecDepth 100000 in
set_option maxHeartbeats 4000000 in
theorem nx_1_5 (c : Tk) (x : AS) (TV : Value) (ok : Bool) (gn gm : Int) (gL : Value) (gid : Int) (gV : Value) (gt : Int) (w : World) (hx : x.Ok) (hV : c.V.oneCell' = true) (hT : TV.oneCell' = true) (hpc : x.pc = 1) (cv : List Int) (hv : VV w c.V cv) (hy : openE c.k c.kk c.ef cv c.dim ok = 5)  :
    Calls Try.prog 14 #[.agg (docA c x TV), .agg (gotL ok gn gm gL gid gV gt)] w (RetD c (({ x with marks := x.marks + 1, err := 5 } : AS).ask 9 0 0 0 0) TV false w) := by
  obtain ⟨w1, hw1⟩ : ∃ y, (((w.alloc (.cells (docA c x TV) 39)).alloc (.cells (gotL ok gn gm gL gid (gV) gt) 42)).alloc (.cells docZ 39)).alloc (.cells opZ 44) = y := ⟨_, rfl⟩
  have s1 : (w.alloc (.cells (docA c x TV) 39)).heap.size = w.heap.size + 1 := by simp only [World.alloc, Array.size_push]
  have s2 : ((w.alloc (.cells (docA c x TV) 39)).alloc (.cells (gotL ok gn gm gL gid (gV) gt) 42)).heap.size = w.heap.size + 1 + 1 := by simp only [World.alloc, Array.size_push]
  have s3 : (((w.alloc (.cells (docA c x TV) 39)).alloc (.cells (gotL ok gn gm gL gid (gV) gt) 42)).alloc (.cells docZ 39)).heap.size = w.heap.size + 1 + 1 + 1 := by simp only [World.alloc, Array.size_push]
  have D1 : Blk w1 w.heap.size 39 (docA c x TV) := by rw [← hw1]; exact (((Blk.new _ _ _).alloc _).alloc _).alloc _
  have G1 : Blk w1 (w.heap.size + 1) 42 (gotL ok gn gm gL gid (gV) gt) := by rw [← hw1, ← s1]; exact ((Blk.new _ _ _).alloc _).alloc _
  have Z1 : Blk w1 (w.heap.size + 1 + 1) 39 docZ := by rw [← hw1, ← s2]; exact (Blk.new _ _ _).alloc _
  have O1 : Blk w1 (w.heap.size + 1 + 1 + 1) 44 opZ := by rw [← hw1, ← s3]; exact Blk.new _ _ _
  have b1 : Below w.heap.size w w1 := by rw [← hw1]; exact ((((Below.refl _ w).alloc (Nat.le_refl _) _).alloc (by rw [s1]; omega) _).alloc (by rw [s2]; omega) _).alloc (by rw [s3]; omega) _
  have c8 : w1.cell? ⟨w.heap.size, 8, none⟩ = some (.int .i64 1) := by
    have q : w1.cell? ⟨w.heap.size, 8, none⟩ = some (Value.int .i64 (x.pc : Int)) := D1.cell 8
    rw [hpc] at q; exact q
  clear s1 s2 s3
  have hT' := hT
  have LC := doc_call D1
  have LG := got_load G1
  have c7 : w1.cell? ⟨w.heap.size, 7, none⟩ = some (.int .i64 c.dim) := D1.cell 7
  obtain ⟨A, n, cp, hVe, hn, hnil, hr⟩ := hv.below b1
  have HV := Lib.hid (ref_open c.k c.id c.tags c.kk c.ef c.dr c.dim A n cp cv ok gn gm gL gid gV gt w1 hr hn)
  rw [hy, ← hVe] at HV
  have HD1 := Lib.hid D1
  have HZ1 := Lib.hid Z1
  have HO1 := Lib.hid O1
  have HB1 := Lib.hid b1
  have hm : x.marks = 0 := by rw [hx.marks, if_pos (by omega)]
  clear G1 D1 Z1 O1 b1 hr hnil hn hVe hx hpc hv hy
  unfold docZ opZ at hw1
  go_enter Try.func14, Try.ntmps14
  go_upto_region 1 with fail
  (try rw [hw1])
  clear hw1
  go_wp2_with (first | refine wpList_loadE LC _ rfl rfl rfl ?_ | refine wpList_loadE LG _ rfl rfl rfl ?_)
  refine HV.out.mono ?_
  rintro e w2 ⟨rfl, b2'⟩
  have D2 := Blk.below HD1.out b2' HD1.out.lt
  have Z2 := Blk.below HZ1.out b2' HZ1.out.lt
  have O2 := Blk.below HO1.out b2' HO1.out.lt
  have b2 := HB1.out.trans (b2'.mono HB1.out.size)
  have k0 : w2.cell? ⟨w.heap.size, 0, none⟩ = some (.int .i64 c.k) := D2.cell 0
  have f2 := D2.frozen
  have e9 : w2.cell? ⟨w.heap.size, 9, none⟩ = some (.int .i64 0) := by
    have q : w2.cell? ⟨w.heap.size, 9, none⟩ = some (Value.int .i64 (x.marks : Int)) := D2.cell 9
    rw [hm] at q; exact q
  have e18 : w2.cell? ⟨w.heap.size, 18, none⟩ = some (.int .i64 x.err) := D2.cell 18
  have D2s0 : Blk (w2.setCell ⟨w.heap.size, 9, none⟩ (.int .i64 1)) w.heap.size 39 (docA c { x with marks := x.marks + 1 } TV) := by
    have := D2.set_ 9 (.int .i64 1)
    rw [docA_mark1 c x TV hm] at this; exact this
  have D2s1 : Blk ((w2.setCell ⟨w.heap.size, 9, none⟩ (.int .i64 1)).setCell ⟨w.heap.size, 18, none⟩ (.int .i64 5)) w.heap.size 39 (docA c { x with marks := x.marks + 1, err := 5 } TV) := by
    have := D2s0.set_ 18 (.int .i64 5)
    rw [docA_err] at this; exact this
  have Z3 : Blk ((w2.setCell ⟨w.heap.size, 9, none⟩ (.int .i64 1)).setCell ⟨w.heap.size, 18, none⟩ (.int .i64 5)) (w.heap.size + 1 + 1) 39 docZ := Z2.tch (Tch.setCell (S := fun k => k = w.heap.size) (Tch.setCell (S := fun k => k = w.heap.size) (Tch.refl _ w2) (g := w.heap.size) rfl 9 _) (g := w.heap.size) rfl 18 _) (by omega)
  have O3 : Blk ((w2.setCell ⟨w.heap.size, 9, none⟩ (.int .i64 1)).setCell ⟨w.heap.size, 18, none⟩ (.int .i64 5)) (w.heap.size + 1 + 1 + 1) 44 opZ := O2.tch (Tch.setCell (S := fun k => k = w.heap.size) (Tch.setCell (S := fun k => k = w.heap.size) (Tch.refl _ w2) (g := w.heap.size) rfl 9 _) (g := w.heap.size) rfl 18 _) (by omega)
  have b3 : Below w.heap.size w ((w2.setCell ⟨w.heap.size, 9, none⟩ (.int .i64 1)).setCell ⟨w.heap.size, 18, none⟩ (.int .i64 5)) := b2.trans ((Tch.setCell (S := fun k => k = w.heap.size) (Tch.setCell (S := fun k => k = w.heap.size) (Tch.refl _ w2) (g := w.heap.size) rfl 9 _) (g := w.heap.size) rfl 18 _).below b2.size (fun k q => by omega))
  have D3 := D2s1
  obtain ⟨w3, hw3⟩ : ∃ y, ((w2.setCell ⟨w.heap.size, 9, none⟩ (.int .i64 1)).setCell ⟨w.heap.size, 18, none⟩ (.int .i64 5)) = y := ⟨_, rfl⟩
  rw [hw3] at D3 Z3 O3 b3
  clear HD1 HZ1 HO1 HB1 b2' LC LG c7 c8 HV
  have L3 := doc_load D3
  have HC := Lib.hid (rf_over c { x with marks := x.marks + 1, err := 5 } TV w3 hV hT')
  have HZ := Lib.hid Z3
  have HO := Lib.hid O3
  have HB := Lib.hid b3
  clear D3 Z3 O3 b3
  clear D2s0 D2s1 D2 Z2 O2 b2 hm
  go_wp2_with (refine wpList_loadE L3 _ rfl rfl rfl ?_)
  refine HC.out.mono ?_
  rintro e w' ⟨rfl, b'⟩
  obtain ⟨w3', w4', S2, S3, HD4, HO4, HB4, _⟩ := nx_tail c (({ x with marks := x.marks + 1, err := 5 } : AS).ask 9 0 0 0 0) TV hV hT' HZ.out HO.out HB.out b'
  clear HC HZ HO HB b' L3 hV hT hT'
  go_wp2_with (first | refine wpList_storeE S2 _ _ rfl rfl rfl rfl ?_ | refine wpList_storeE S3 _ _ rfl rfl rfl rfl ?_)
  refine bodyPost_ret (v := .tuple #[.agg (docA c (({ x with marks := x.marks + 1, err := 5 } : AS).ask 9 0 0 0 0) TV), .agg (opX (({ x with marks := x.marks + 1, err := 5 } : AS).ask 9 0 0 0 0)), .bool false]) ?_ rfl ⟨rfl, HB4.out⟩
  exact results_rows2 (P := Try.prog) Try.results14 _ rfl rfl HD4.out HO4.out Try.underlying39 rfl docT Try.underlying44 rfl opT
set_option maxRecDepth 100000 in
set_option maxHeartbeats 4000000 in
theorem nx_1_len (c : Tk) (x : AS) (TV : Value) (ok : Bool) (gn gm : Int) (gL : Value) (gid : Int) (gV : Value) (gt : Int) (w : World) (hV : c.V.oneCell' = true) (hT : TV.oneCell' = true) (hpc : x.pc = 1) (cv : List Int) (hv : VV w c.V cv) (hy : openE c.k c.kk c.ef cv c.dim ok = 0) (hk : c.k = 5) :
    Calls Try.prog 14 #[.agg (docA c x TV), .agg (gotL ok gn gm gL gid gV gt)] w (RetD c (x.ask 3 18 0 0 0) TV true w) := by
  obtain ⟨w1, hw1⟩ : ∃ y, (((w.alloc (.cells (docA c x TV) 39)).alloc (.cells (gotL ok gn gm gL gid (gV) gt) 42)).alloc (.cells docZ 39)).alloc (.cells opZ 44) = y := ⟨_, rfl⟩
  have s1 : (w.alloc (.cells (docA c x TV) 39)).heap.size = w.heap.size + 1 := by simp only [World.alloc, Array.size_push]
  have s2 : ((w.alloc (.cells (docA c x TV) 39)).alloc (.cells (gotL ok gn gm gL gid (gV) gt) 42)).heap.size = w.heap.size + 1 + 1 := by simp only [World.alloc, Array.size_push]
  have s3 : (((w.alloc (.cells (docA c x TV) 39)).alloc (.cells (gotL ok gn gm gL gid (gV) gt) 42)).alloc (.cells docZ 39)).heap.size = w.heap.size + 1 + 1 + 1 := by simp only [World.alloc, Array.size_push]
  have D1 : Blk w1 w.heap.size 39 (docA c x TV) := by rw [← hw1]; exact (((Blk.new _ _ _).alloc _).alloc _).alloc _
  have G1 : Blk w1 (w.heap.size + 1) 42 (gotL ok gn gm gL gid (gV) gt) := by rw [← hw1, ← s1]; exact ((Blk.new _ _ _).alloc _).alloc _
  have Z1 : Blk w1 (w.heap.size + 1 + 1) 39 docZ := by rw [← hw1, ← s2]; exact (Blk.new _ _ _).alloc _
  have O1 : Blk w1 (w.heap.size + 1 + 1 + 1) 44 opZ := by rw [← hw1, ← s3]; exact Blk.new _ _ _
  have b1 : Below w.heap.size w w1 := by rw [← hw1]; exact ((((Below.refl _ w).alloc (Nat.le_refl _) _).alloc (by rw [s1]; omega) _).alloc (by rw [s2]; omega) _).alloc (by rw [s3]; omega) _
  have c8 : w1.cell? ⟨w.heap.size, 8, none⟩ = some (.int .i64 1) := by
    have q : w1.cell? ⟨w.heap.size, 8, none⟩ = some (Value.int .i64 (x.pc : Int)) := D1.cell 8
    rw [hpc] at q; exact q
  clear s1 s2 s3
  have HK := Lib.hid hk
  clear hk
  have hT' := hT
  have LC := doc_call D1
  have LG := got_load G1
  have c7 : w1.cell? ⟨w.heap.size, 7, none⟩ = some (.int .i64 c.dim) := D1.cell 7
  obtain ⟨A, n, cp, hVe, hn, hnil, hr⟩ := hv.below b1
  have HV := Lib.hid (ref_open c.k c.id c.tags c.kk c.ef c.dr c.dim A n cp cv ok gn gm gL gid gV gt w1 hr hn)
  rw [hy, ← hVe] at HV
  have HD1 := Lib.hid D1
  have HZ1 := Lib.hid Z1
  have HO1 := Lib.hid O1
  have HB1 := Lib.hid b1
  clear G1 D1 Z1 O1 b1 hr hnil hn hVe hpc hv hy
  unfold docZ opZ at hw1
  go_enter Try.func14, Try.ntmps14
  go_upto_region 1 with fail
  (try rw [hw1])
  clear hw1
  go_wp2_with (first | refine wpList_loadE LC _ rfl rfl rfl ?_ | refine wpList_loadE LG _ rfl rfl rfl ?_)
  refine HV.out.mono ?_
  rintro e w2 ⟨rfl, b2'⟩
  have D2 := Blk.below HD1.out b2' HD1.out.lt
  have Z2 := Blk.below HZ1.out b2' HZ1.out.lt
  have O2 := Blk.below HO1.out b2' HO1.out.lt
  have b2 := HB1.out.trans (b2'.mono HB1.out.size)
  have k0 : w2.cell? ⟨w.heap.size, 0, none⟩ = some (.int .i64 c.k) := D2.cell 0
  rw [HK.out] at k0
  clear HK
  clear HD1 HZ1 HO1 HB1 b2' LC LG c7 c8 HV
  have L2 := doc_load D2
  have HC := Lib.hid (rf_ask c x TV 3 18 0 0 0 w2 hV hT')
  have HZ := Lib.hid Z2
  have HO := Lib.hid O2
  have HB := Lib.hid b2
  clear D2 Z2 O2 b2
  go_wp2_with (refine wpList_loadE L2 _ rfl rfl rfl ?_)
  refine HC.out.mono ?_
  rintro e w' ⟨rfl, b'⟩
  obtain ⟨w3', w4', S2, S3, HD4, HO4, HB4, _⟩ := nx_tail c (x.ask 3 18 0 0 0) TV hV hT' HZ.out HO.out HB.out b'
  clear HC HZ HO HB b' L2 hV hT hT'
  go_wp2_with (first | refine wpList_storeE S2 _ _ rfl rfl rfl rfl ?_ | refine wpList_storeE S3 _ _ rfl rfl rfl rfl ?_)
  refine bodyPost_ret (v := .tuple #[.agg (docA c (x.ask 3 18 0 0 0) TV), .agg (opX (x.ask 3 18 0 0 0)), .bool true]) ?_ rfl ⟨rfl, HB4.out⟩
  exact results_rows2 (P := Try.prog) Try.results14 _ rfl rfl HD4.out HO4.out Try.underlying39 rfl docT Try.underlying44 rfl opT
set_option maxRecDepth 100000 in
set_option maxHeartbeats 4000000 in
theorem nx_1_get (c : Tk) (x : AS) (TV : Value) (ok : Bool) (gn gm : Int) (gL : Value) (gid : Int) (gV : Value) (gt : Int) (w : World) (hV : c.V.oneCell' = true) (hT : TV.oneCell' = true) (hpc : x.pc = 1) (cv : List Int) (hv : VV w c.V cv) (hy : openE c.k c.kk c.ef cv c.dim ok = 0) (hk : c.k = 3) :
    Calls Try.prog 14 #[.agg (docA c x TV), .agg (gotL ok gn gm gL gid gV gt)] w (RetD c (x.ask 4 3 0 0 0) TV true w) := by
  obtain ⟨w1, hw1⟩ : ∃ y, (((w.alloc (.cells (docA c x TV) 39)).alloc (.cells (gotL ok gn gm gL gid (gV) gt) 42)).alloc (.cells docZ 39)).alloc (.cells opZ 44) = y := ⟨_, rfl⟩
  have s1 : (w.alloc (.cells (docA c x TV) 39)).heap.size = w.heap.size + 1 := by simp only [World.alloc, Array.size_push]
  have s2 : ((w.alloc (.cells (docA c x TV) 39)).alloc (.cells (gotL ok gn gm gL gid (gV) gt) 42)).heap.size = w.heap.size + 1 + 1 := by simp only [World.alloc, Array.size_push]
  have s3 : (((w.alloc (.cells (docA c x TV) 39)).alloc (.cells (gotL ok gn gm gL gid (gV) gt) 42)).alloc (.cells docZ 39)).heap.size = w.heap.size + 1 + 1 + 1 := by simp only [World.alloc, Array.size_push]
  have D1 : Blk w1 w.heap.size 39 (docA c x TV) := by rw [← hw1]; exact (((Blk.new _ _ _).alloc _).alloc _).alloc _
  have G1 : Blk w1 (w.heap.size + 1) 42 (gotL ok gn gm gL gid (gV) gt) := by rw [← hw1, ← s1]; exact ((Blk.new _ _ _).alloc _).alloc _
  have Z1 : Blk w1 (w.heap.size + 1 + 1) 39 docZ := by rw [← hw1, ← s2]; exact (Blk.new _ _ _).alloc _
  have O1 : Blk w1 (w.heap.size + 1 + 1 + 1) 44 opZ := by rw [← hw1, ← s3]; exact Blk.new _ _ _
  have b1 : Below w.heap.size w w1 := by rw [← hw1]; exact ((((Below.refl _ w).alloc (Nat.le_refl _) _).alloc (by rw [s1]; omega) _).alloc (by rw [s2]; omega) _).alloc (by rw [s3]; omega) _
  have c8 : w1.cell? ⟨w.heap.size, 8, none⟩ = some (.int .i64 1) := by
    have q : w1.cell? ⟨w.heap.size, 8, none⟩ = some (Value.int .i64 (x.pc : Int)) := D1.cell 8
    rw [hpc] at q; exact q
  clear s1 s2 s3
  have HK := Lib.hid hk
  clear hk
  have hT' := hT
  have LC := doc_call D1
  have LG := got_load G1
  have c7 : w1.cell? ⟨w.heap.size, 7, none⟩ = some (.int .i64 c.dim) := D1.cell 7
  obtain ⟨A, n, cp, hVe, hn, hnil, hr⟩ := hv.below b1
  have HV := Lib.hid (ref_open c.k c.id c.tags c.kk c.ef c.dr c.dim A n cp cv ok gn gm gL gid gV gt w1 hr hn)
  rw [hy, ← hVe] at HV
  have HD1 := Lib.hid D1
  have HZ1 := Lib.hid Z1
  have HO1 := Lib.hid O1
  have HB1 := Lib.hid b1
  clear G1 D1 Z1 O1 b1 hr hnil hn hVe hpc hv hy
  unfold docZ opZ at hw1
  go_enter Try.func14, Try.ntmps14
  go_upto_region 1 with fail
  (try rw [hw1])
  clear hw1
  go_wp2_with (first | refine wpList_loadE LC _ rfl rfl rfl ?_ | refine wpList_loadE LG _ rfl rfl rfl ?_)
  refine HV.out.mono ?_
  rintro e w2 ⟨rfl, b2'⟩
  have D2 := Blk.below HD1.out b2' HD1.out.lt
  have Z2 := Blk.below HZ1.out b2' HZ1.out.lt
  have O2 := Blk.below HO1.out b2' HO1.out.lt
  have b2 := HB1.out.trans (b2'.mono HB1.out.size)
  have k0 : w2.cell? ⟨w.heap.size, 0, none⟩ = some (.int .i64 c.k) := D2.cell 0
  rw [HK.out] at k0
  clear HK
  clear HD1 HZ1 HO1 HB1 b2' LC LG c7 c8 HV
  have L2 := doc_load D2
  have HC := Lib.hid (rf_ask c x TV 4 3 0 0 0 w2 hV hT')
  have HZ := Lib.hid Z2
  have HO := Lib.hid O2
  have HB := Lib.hid b2
  clear D2 Z2 O2 b2
  go_wp2_with (refine wpList_loadE L2 _ rfl rfl rfl ?_)
  refine HC.out.mono ?_
  rintro e w' ⟨rfl, b'⟩
  obtain ⟨w3', w4', S2, S3, HD4, HO4, HB4, _⟩ := nx_tail c (x.ask 4 3 0 0 0) TV hV hT' HZ.out HO.out HB.out b'
  clear HC HZ HO HB b' L2 hV hT hT'
  go_wp2_with (first | refine wpList_storeE S2 _ _ rfl rfl rfl rfl ?_ | refine wpList_storeE S3 _ _ rfl rfl rfl rfl ?_)
  refine bodyPost_ret (v := .tuple #[.agg (docA c (x.ask 4 3 0 0 0) TV), .agg (opX (x.ask 4 3 0 0 0)), .bool true]) ?_ rfl ⟨rfl, HB4.out⟩
  exact results_rows2 (P := Try.prog) Try.results14 _ rfl rfl HD4.out HO4.out Try.underlying39 rfl docT Try.underlying44 rfl opT
set_option maxRecDepth 100000 in
set_option maxHeartbeats 4000000 in
theorem nx_1_bad (c : Tk) (x : AS) (TV : Value) (ok : Bool) (gn gm : Int) (gL : Value) (gid : Int) (gV : Value) (gt : Int) (w : World) (hx : x.Ok) (hV : c.V.oneCell' = true) (hT : TV.oneCell' = true) (hpc : x.pc = 1) (cv : List Int) (hv : VV w c.V cv) (hy : openE c.k c.kk c.ef cv c.dim ok = 0) (_k5 : (c.k == 5) = false) (_k3 : (c.k == 3) = false) (_n5 : (c.k != 5) = true) (_n3 : (c.k != 3) = true) :
    Calls Try.prog 14 #[.agg (docA c x TV), .agg (gotL ok gn gm gL gid gV gt)] w (RetD c (({ x with marks := x.marks + 1, err := 1 } : AS).ask 9 0 0 0 0) TV false w) := by
  obtain ⟨w1, hw1⟩ : ∃ y, (((w.alloc (.cells (docA c x TV) 39)).alloc (.cells (gotL ok gn gm gL gid (gV) gt) 42)).alloc (.cells docZ 39)).alloc (.cells opZ 44) = y := ⟨_, rfl⟩
  have s1 : (w.alloc (.cells (docA c x TV) 39)).heap.size = w.heap.size + 1 := by simp only [World.alloc, Array.size_push]
  have s2 : ((w.alloc (.cells (docA c x TV) 39)).alloc (.cells (gotL ok gn gm gL gid (gV) gt) 42)).heap.size = w.heap.size + 1 + 1 := by simp only [World.alloc, Array.size_push]
  have s3 : (((w.alloc (.cells (docA c x TV) 39)).alloc (.cells (gotL ok gn gm gL gid (gV) gt) 42)).alloc (.cells docZ 39)).heap.size = w.heap.size + 1 + 1 + 1 := by simp only [World.alloc, Array.size_push]
  have D1 : Blk w1 w.heap.size 39 (docA c x TV) := by rw [← hw1]; exact (((Blk.new _ _ _).alloc _).alloc _).alloc _
  have G1 : Blk w1 (w.heap.size + 1) 42 (gotL ok gn gm gL gid (gV) gt) := by rw [← hw1, ← s1]; exact ((Blk.new _ _ _).alloc _).alloc _
  have Z1 : Blk w1 (w.heap.size + 1 + 1) 39 docZ := by rw [← hw1, ← s2]; exact (Blk.new _ _ _).alloc _
  have O1 : Blk w1 (w.heap.size + 1 + 1 + 1) 44 opZ := by rw [← hw1, ← s3]; exact Blk.new _ _ _
  have b1 : Below w.heap.size w w1 := by rw [← hw1]; exact ((((Below.refl _ w).alloc (Nat.le_refl _) _).alloc (by rw [s1]; omega) _).alloc (by rw [s2]; omega) _).alloc (by rw [s3]; omega) _
  have c8 : w1.cell? ⟨w.heap.size, 8, none⟩ = some (.int .i64 1) := by
    have q : w1.cell? ⟨w.heap.size, 8, none⟩ = some (Value.int .i64 (x.pc : Int)) := D1.cell 8
    rw [hpc] at q; exact q
  clear s1 s2 s3
  have hT' := hT
  have LC := doc_call D1
  have LG := got_load G1
  have c7 : w1.cell? ⟨w.heap.size, 7, none⟩ = some (.int .i64 c.dim) := D1.cell 7
  obtain ⟨A, n, cp, hVe, hn, hnil, hr⟩ := hv.below b1
  have HV := Lib.hid (ref_open c.k c.id c.tags c.kk c.ef c.dr c.dim A n cp cv ok gn gm gL gid gV gt w1 hr hn)
  rw [hy, ← hVe] at HV
  have HD1 := Lib.hid D1
  have HZ1 := Lib.hid Z1
  have HO1 := Lib.hid O1
  have HB1 := Lib.hid b1
  have hm : x.marks = 0 := by rw [hx.marks, if_pos (by omega)]
  clear G1 D1 Z1 O1 b1 hr hnil hn hVe hx hpc hv hy
  unfold docZ opZ at hw1
  go_enter Try.func14, Try.ntmps14
  go_upto_region 1 with fail
  (try rw [hw1])
  clear hw1
  go_wp2_with (first | refine wpList_loadE LC _ rfl rfl rfl ?_ | refine wpList_loadE LG _ rfl rfl rfl ?_)
  refine HV.out.mono ?_
  rintro e w2 ⟨rfl, b2'⟩
  have D2 := Blk.below HD1.out b2' HD1.out.lt
  have Z2 := Blk.below HZ1.out b2' HZ1.out.lt
  have O2 := Blk.below HO1.out b2' HO1.out.lt
  have b2 := HB1.out.trans (b2'.mono HB1.out.size)
  have k0 : w2.cell? ⟨w.heap.size, 0, none⟩ = some (.int .i64 c.k) := D2.cell 0
  have f2 := D2.frozen
  have e9 : w2.cell? ⟨w.heap.size, 9, none⟩ = some (.int .i64 0) := by
    have q : w2.cell? ⟨w.heap.size, 9, none⟩ = some (Value.int .i64 (x.marks : Int)) := D2.cell 9
    rw [hm] at q; exact q
  have e18 : w2.cell? ⟨w.heap.size, 18, none⟩ = some (.int .i64 x.err) := D2.cell 18
  have D2s0 : Blk (w2.setCell ⟨w.heap.size, 9, none⟩ (.int .i64 1)) w.heap.size 39 (docA c { x with marks := x.marks + 1 } TV) := by
    have := D2.set_ 9 (.int .i64 1)
    rw [docA_mark1 c x TV hm] at this; exact this
  have D2s1 : Blk ((w2.setCell ⟨w.heap.size, 9, none⟩ (.int .i64 1)).setCell ⟨w.heap.size, 18, none⟩ (.int .i64 1)) w.heap.size 39 (docA c { x with marks := x.marks + 1, err := 1 } TV) := by
    have := D2s0.set_ 18 (.int .i64 1)
    rw [docA_err] at this; exact this
  have Z3 : Blk ((w2.setCell ⟨w.heap.size, 9, none⟩ (.int .i64 1)).setCell ⟨w.heap.size, 18, none⟩ (.int .i64 1)) (w.heap.size + 1 + 1) 39 docZ := Z2.tch (Tch.setCell (S := fun k => k = w.heap.size) (Tch.setCell (S := fun k => k = w.heap.size) (Tch.refl _ w2) (g := w.heap.size) rfl 9 _) (g := w.heap.size) rfl 18 _) (by omega)
  have O3 : Blk ((w2.setCell ⟨w.heap.size, 9, none⟩ (.int .i64 1)).setCell ⟨w.heap.size, 18, none⟩ (.int .i64 1)) (w.heap.size + 1 + 1 + 1) 44 opZ := O2.tch (Tch.setCell (S := fun k => k = w.heap.size) (Tch.setCell (S := fun k => k = w.heap.size) (Tch.refl _ w2) (g := w.heap.size) rfl 9 _) (g := w.heap.size) rfl 18 _) (by omega)
  have b3 : Below w.heap.size w ((w2.setCell ⟨w.heap.size, 9, none⟩ (.int .i64 1)).setCell ⟨w.heap.size, 18, none⟩ (.int .i64 1)) := b2.trans ((Tch.setCell (S := fun k => k = w.heap.size) (Tch.setCell (S := fun k => k = w.heap.size) (Tch.refl _ w2) (g := w.heap.size) rfl 9 _) (g := w.heap.size) rfl 18 _).below b2.size (fun k q => by omega))
  have D3 := D2s1
  obtain ⟨w3, hw3⟩ : ∃ y, ((w2.setCell ⟨w.heap.size, 9, none⟩ (.int .i64 1)).setCell ⟨w.heap.size, 18, none⟩ (.int .i64 1)) = y := ⟨_, rfl⟩
  rw [hw3] at D3 Z3 O3 b3
  clear HD1 HZ1 HO1 HB1 b2' LC LG c7 c8 HV
  have L3 := doc_load D3
  have HC := Lib.hid (rf_over c { x with marks := x.marks + 1, err := 1 } TV w3 hV hT')
  have HZ := Lib.hid Z3
  have HO := Lib.hid O3
  have HB := Lib.hid b3
  clear D3 Z3 O3 b3
  clear D2s0 D2s1 D2 Z2 O2 b2 hm
  go_wp2_with (refine wpList_loadE L3 _ rfl rfl rfl ?_)
  refine HC.out.mono ?_
  rintro e w' ⟨rfl, b'⟩
  obtain ⟨w3', w4', S2, S3, HD4, HO4, HB4, _⟩ := nx_tail c (({ x with marks := x.marks + 1, err := 1 } : AS).ask 9 0 0 0 0) TV hV hT' HZ.out HO.out HB.out b'
  clear HC HZ HO HB b' L3 hV hT hT'
  go_wp2_with (first | refine wpList_storeE S2 _ _ rfl rfl rfl rfl ?_ | refine wpList_storeE S3 _ _ rfl rfl rfl rfl ?_)
  refine bodyPost_ret (v := .tuple #[.agg (docA c (({ x with marks := x.marks + 1, err := 1 } : AS).ask 9 0 0 0 0) TV), .agg (opX (({ x with marks := x.marks + 1, err := 1 } : AS).ask 9 0 0 0 0)), .bool false]) ?_ rfl ⟨rfl, HB4.out⟩
  exact results_rows2 (P := Try.prog) Try.results14 _ rfl rfl HD4.out HO4.out Try.underlying39 rfl docT Try.underlying44 rfl opT
set_option maxRecDepth 100000 in
set_option maxHeartbeats 4000000 in
theorem nx_4 (c : Tk) (x : AS) (TV : Value) (ok : Bool) (gn gm : Int) (gL : Value) (gid : Int) (gV : Value) (gt : Int) (w : World) (hV : c.V.oneCell' = true) (hT : TV.oneCell' = true) (hpc : x.pc = 4)  :
    Calls Try.prog 14 #[.agg (docA c x TV), .agg (gotL ok gn gm gL gid gV gt)] w (RetD c (x.ask 5 6 0 (recE gn) 0) TV true w) := by
  obtain ⟨w1, hw1⟩ : ∃ y, (((w.alloc (.cells (docA c x TV) 39)).alloc (.cells (gotL ok gn gm gL gid (gV) gt) 42)).alloc (.cells docZ 39)).alloc (.cells opZ 44) = y := ⟨_, rfl⟩
  have s1 : (w.alloc (.cells (docA c x TV) 39)).heap.size = w.heap.size + 1 := by simp only [World.alloc, Array.size_push]
  have s2 : ((w.alloc (.cells (docA c x TV) 39)).alloc (.cells (gotL ok gn gm gL gid (gV) gt) 42)).heap.size = w.heap.size + 1 + 1 := by simp only [World.alloc, Array.size_push]
  have s3 : (((w.alloc (.cells (docA c x TV) 39)).alloc (.cells (gotL ok gn gm gL gid (gV) gt) 42)).alloc (.cells docZ 39)).heap.size = w.heap.size + 1 + 1 + 1 := by simp only [World.alloc, Array.size_push]
  have D1 : Blk w1 w.heap.size 39 (docA c x TV) := by rw [← hw1]; exact (((Blk.new _ _ _).alloc _).alloc _).alloc _
  have G1 : Blk w1 (w.heap.size + 1) 42 (gotL ok gn gm gL gid (gV) gt) := by rw [← hw1, ← s1]; exact ((Blk.new _ _ _).alloc _).alloc _
  have Z1 : Blk w1 (w.heap.size + 1 + 1) 39 docZ := by rw [← hw1, ← s2]; exact (Blk.new _ _ _).alloc _
  have O1 : Blk w1 (w.heap.size + 1 + 1 + 1) 44 opZ := by rw [← hw1, ← s3]; exact Blk.new _ _ _
  have b1 : Below w.heap.size w w1 := by rw [← hw1]; exact ((((Below.refl _ w).alloc (Nat.le_refl _) _).alloc (by rw [s1]; omega) _).alloc (by rw [s2]; omega) _).alloc (by rw [s3]; omega) _
  have c8 : w1.cell? ⟨w.heap.size, 8, none⟩ = some (.int .i64 4) := by
    have q : w1.cell? ⟨w.heap.size, 8, none⟩ = some (Value.int .i64 (x.pc : Int)) := D1.cell 8
    rw [hpc] at q; exact q
  clear s1 s2 s3
  have hT' := hT
  have HD1 := Lib.hid D1
  have HG1 := Lib.hid G1
  have HZ := Lib.hid Z1
  have HO := Lib.hid O1
  have HB := Lib.hid b1
  clear D1 G1 Z1 O1 b1 hpc
  unfold docZ opZ at hw1
  go_enter Try.func14, Try.ntmps14
  go_upto_region 1 with fail
  (try rw [hw1])
  clear hw1
  go_wp2_with fail
  have HR := Lib.hid (fun w => ref_rec gn w)
  refine wp_region_held_drew (S := fun w' => w'.rangeAt w.heap.size 0 (docA c x TV).toList ∧ w'.cell? ⟨w.heap.size + 1, 1, none⟩ = some (.int .i64 gn)) (by kernel_rfl) ⟨HD1.out.range, HG1.out.cell 1⟩ (fun hHeld => ?_)
  refine wpAnyH_take (i := 0) rfl (by kernel_rfl) (by kernel_rfl) (by kernel_rfl) (fun _ _ _ h => h) (yieldsIf_load_mid (by rfl) 39 _ rfl _ _ rfl (docA c x TV).toList _ (fun _ q => q.1) Try.underlying39 rfl docT) hHeld ?_
  (try simp only [List.getElem_toArray, List.getElem_cons_zero, Act.put, List.setIfInBounds_toArray, List.set_cons_zero, List.set_cons_succ])
  refine wpAnyH_take (i := 1) (v := .pointer (some ⟨w.heap.size + 1, 1, none⟩)) rfl (by kernel_rfl) (by kernel_rfl) (by kernel_rfl) (fun _ _ _ h => h) (Or.inl ⟨by rfl, fun _ _ => by rfl⟩) hHeld ?_
  (try simp only [List.getElem_toArray, List.getElem_cons_zero, List.getElem_cons_succ, Act.put, List.setIfInBounds_toArray, List.set_cons_zero, List.set_cons_succ])
  refine wpAnyH_take (i := 2) (v := .int .i64 gn) rfl (by kernel_rfl) (by kernel_rfl) (by kernel_rfl) (fun _ _ _ h => h) (Or.inl ⟨by rfl, ?_⟩) hHeld ?_
  · intro w5 hS5
    obtain ⟨_, hq⟩ := hS5
    go_simp
  (try simp only [List.getElem_toArray, List.getElem_cons_zero, List.getElem_cons_succ, Act.put, List.setIfInBounds_toArray, List.set_cons_zero, List.set_cons_succ])
  refine wpAnyH_call 3 65 #[.int .i64 gn] _ (by kernel_rfl) (by rfl) (by kernel_rfl) (by kernel_rfl) (ref_rec gn _) ?_
  rintro e w' ⟨rfl, rfl⟩
  refine ⟨_, rfl, hHeld, ?_⟩
  (try simp only [List.getElem_toArray, List.getElem_cons_zero, List.getElem_cons_succ, Act.put, List.setIfInBounds_toArray, List.set_cons_zero, List.set_cons_succ])
  refine wpAnyH_value 4 (.agg (opA 6 0 (recE gn) 0)) (by kernel_rfl) (by rfl) (by kernel_rfl) (by kernel_rfl) hHeld ?_
  (try simp only [List.getElem_toArray, List.getElem_cons_zero, List.getElem_cons_succ, Act.put, List.setIfInBounds_toArray, List.set_cons_zero, List.set_cons_succ])
  refine wpAnyH_call 5 62 #[.agg (docA c x TV), .int .i64 5, .agg (opA 6 0 (recE gn) 0)] _ (by kernel_rfl) (by rfl) (by kernel_rfl) (by kernel_rfl) (rf_ask c x TV 5 6 0 (recE gn) 0 w1.drew hV hT) ?_
  rintro e w' ⟨rfl, b'⟩
  have HS : w'.rangeAt w.heap.size 0 (docA c x TV).toList ∧ w'.cell? ⟨w.heap.size + 1, 1, none⟩ = some (.int .i64 gn) :=
    ⟨(Blk.below (w := w1.drew) HD1.out b' HD1.out.lt).range, (Blk.below (w := w1.drew) HG1.out b' HG1.out.lt).cell 1⟩
  obtain ⟨w3', w4', S2, S3, HD4, HO4, HB4, ta, tb⟩ := nx_tail (W := w1.drew) c (x.ask 5 6 0 (recE gn) 0) TV hV hT' HZ.out HO.out (below_drewN HB.out 1) b'
  have D5 := Blk.below (w := w1.drew) HD1.out b' HD1.out.lt
  have G5 := Blk.below (w := w1.drew) HG1.out b' HG1.out.lt
  have HS3 : w3'.rangeAt w.heap.size 0 (docA c x TV).toList ∧ w3'.cell? ⟨w.heap.size + 1, 1, none⟩ = some (.int .i64 gn) := ⟨(D5.tch ta (by omega)).range, (G5.tch ta (by omega)).cell 1⟩
  have HS4 : w4'.rangeAt w.heap.size 0 (docA c x TV).toList ∧ w4'.cell? ⟨w.heap.size + 1, 1, none⟩ = some (.int .i64 gn) := ⟨((D5.tch ta (by omega)).tch tb (by omega)).range, ((G5.tch ta (by omega)).tch tb (by omega)).cell 1⟩
  refine ⟨_, rfl, HS, ?_⟩
  clear HD1 HG1 HZ HO HB b' HR hHeld hV hT hT' ta tb D5 G5
  (try simp only [List.getElem_toArray, List.getElem_cons_zero, List.getElem_cons_succ, Act.put, List.setIfInBounds_toArray, List.set_cons_zero, List.set_cons_succ])
  refine wpAnyH_take (i := 6) (v := .agg (docA c (x.ask 5 6 0 (recE gn) 0) TV)) rfl (by kernel_rfl) (by kernel_rfl) (by kernel_rfl) (fun _ _ _ h => h) (Or.inl ⟨by rfl, fun _ _ => by kernel_rfl⟩) HS ?_
  (try simp only [List.getElem_toArray, List.getElem_cons_zero, List.getElem_cons_succ, Act.put, List.setIfInBounds_toArray, List.set_cons_zero, List.set_cons_succ])
  refine wpAnyH_take (i := 7) (v := .agg (opX (x.ask 5 6 0 (recE gn) 0))) rfl (by kernel_rfl) (by kernel_rfl) (by kernel_rfl) (fun _ _ _ h => h) (Or.inl ⟨by rfl, fun _ _ => by kernel_rfl⟩) HS ?_
  (try simp only [List.getElem_toArray, List.getElem_cons_zero, List.getElem_cons_succ, Act.put, List.setIfInBounds_toArray, List.set_cons_zero, List.set_cons_succ])
  refine wpAnyH_take (i := 8) (v := .bool true) rfl (by kernel_rfl) (by kernel_rfl) (by kernel_rfl) (fun _ _ _ h => h) (Or.inl ⟨by rfl, fun _ _ => by kernel_rfl⟩) HS ?_
  (try simp only [List.getElem_toArray, List.getElem_cons_zero, List.getElem_cons_succ, Act.put, List.setIfInBounds_toArray, List.set_cons_zero, List.set_cons_succ])
  refine wpAnyH_store 9 _ _ _ (by kernel_rfl) (by rfl) (by kernel_rfl) (by rfl) (by rfl) (by rfl) S2 HS3 ?_
  (try simp only [List.getElem_toArray, List.getElem_cons_zero, List.getElem_cons_succ, Act.put])
  refine wpAnyH_store 10 _ _ _ (by kernel_rfl) (by rfl) (by kernel_rfl) (by rfl) (by rfl) (by rfl) S3 HS4 ?_
  (try simp only [List.getElem_toArray, List.getElem_cons_zero, List.getElem_cons_succ, Act.put])
  refine wpAnyH_value 11 (.bool true) (by kernel_rfl) (by rfl) (by kernel_rfl) (by kernel_rfl) HS4 ?_
  (try simp only [List.getElem_toArray, List.getElem_cons_zero, List.getElem_cons_succ, Act.put, List.setIfInBounds_toArray, List.set_cons_zero, List.set_cons_succ])
  refine wpAnyH_done (by kernel_rfl) ?_ _
  go_wp2_with fail
  refine bodyPost_ret (v := .tuple #[.agg (docA c (x.ask 5 6 0 (recE gn) 0) TV), .agg (opX (x.ask 5 6 0 (recE gn) 0)), .bool true]) ?_ rfl ⟨rfl, HB4.out⟩
  exact results_rows2 (P := Try.prog) Try.results14 _ rfl rfl HD4.out HO4.out Try.underlying39 rfl docT Try.underlying44 rfl opT
end Go.Proofs.Ytkhnnjeinpojkaa
