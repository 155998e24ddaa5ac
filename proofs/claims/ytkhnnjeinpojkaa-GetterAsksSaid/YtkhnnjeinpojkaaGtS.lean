/- Getter: the document's Next, case by case. -/
import Derived.Test.YtkhnnjeinpojkaaGtR
namespace Go.Proofs.Ytkhnnjeinpojkaa
open Go.RowKit
/-- Behind what ask, or over, says: the two stores and where they lead. -/
theorem nx_tail {w W w' : World} (c : Tk) (x : AS) (TV : Value) (hV : c.V.oneCell' = true) (hT : TV.oneCell' = true) (hZ : Blk W (w.heap.size + 1 + 1) 39 docZ) (hO : Blk W (w.heap.size + 1 + 1 + 1) 44 opZ)
    (hB : Below w.heap.size w W) (b : Below W.heap.size W w') :
    ∃ w3 w4, (Instr.storeAt 39 (.pointer (some ⟨w.heap.size + 1 + 1, 0, none⟩)) (.agg (docA c x TV))).run Try.prog w' = .ok () w3 ∧
      (Instr.storeAt 44 (.pointer (some ⟨w.heap.size + 1 + 1 + 1, 0, none⟩)) (.agg (opX x))).run Try.prog w3 = .ok () w4 ∧
      Hid (Blk w4 (w.heap.size + 1 + 1) 39 (docA c x TV)) ∧ Hid (Blk w4 (w.heap.size + 1 + 1 + 1) 44 (opX x)) ∧ Hid (Below w.heap.size w w4) ∧ Tch (fun k => k = w.heap.size + 1 + 1) w' w3 ∧ Tch (fun k => k = w.heap.size + 1 + 1 + 1) w3 w4 := by
  have Z := Blk.below hZ b hZ.lt
  have O := Blk.below hO b hO.lt
  have B := hB.trans (b.mono hB.size)
  refine ⟨_, _, doc_store Z rfl c x TV hV hT, op_store (O.apart (show w.heap.size + 1 + 1 + 1 ≠ w.heap.size + 1 + 1 by omega) _ 0) rfl x.k x.a x.n x.id, ?_, ?_, ?_, Tch.setCells (S := fun k => k = w.heap.size + 1 + 1) (g := w.heap.size + 1 + 1) rfl _ _ _ (Tch.refl _ _), Tch.setCells (S := fun k => k = w.heap.size + 1 + 1 + 1) (g := w.heap.size + 1 + 1 + 1) rfl _ _ _ (Tch.refl _ _)⟩
  · exact (Z.putA (docA c x TV) rfl).apart (show w.heap.size + 1 + 1 ≠ w.heap.size + 1 + 1 + 1 by omega) _ 0
  · exact (O.apart (show w.heap.size + 1 + 1 + 1 ≠ w.heap.size + 1 + 1 by omega) _ 0).putA (opX x) rfl
  · exact below_put (below_put B (Nat.le_refl _) (show w.heap.size ≤ w.heap.size + 1 + 1 by omega) _ 0) (Nat.le_refl _) (show w.heap.size ≤ w.heap.size + 1 + 1 + 1 by omega) _ 0
theorem docA_marks (c : Tk) (x : AS) (TV : Value) (n : Nat) : (docA c x TV).setIfInBounds 9 (.int .i64 n) = docA c { x with marks := n } TV := by
  apply Array.ext'
  simp only [Array.toList_setIfInBounds]
  rfl
theorem docA_mark1 (c : Tk) (x : AS) (TV : Value) (hm : x.marks = 0) : (docA c x TV).setIfInBounds 9 (.int .i64 1) = docA c { x with marks := x.marks + 1 } TV := by
  have := docA_marks c x TV (x.marks + 1)
  rw [← this, hm]; rfl
theorem docA_err (c : Tk) (x : AS) (TV : Value) (n : Int) : (docA c x TV).setIfInBounds 18 (.int .i64 n) = docA c { x with err := n } TV := by
  apply Array.ext'
  simp only [Array.toList_setIfInBounds]
  rfl
theorem docA_len (c : Tk) (x : AS) (TV : Value) (n : Int) : (docA c x TV).setIfInBounds 23 (.int .i64 n) = docA c { x with len := n } TV := by
  apply Array.ext'
  simp only [Array.toList_setIfInBounds]
  rfl
theorem docA_item (c : Tk) (x : AS) (TV V : Value) (i t : Int) (vec : List Int) : (((docA c x TV).setIfInBounds 19 (.int .u64 i)).setIfInBounds 20 V).setIfInBounds 21 (.int .u64 t) = docA c { x with tid := i, vec := vec, ttags := t } V := by
  apply Array.ext'
  simp only [Array.toList_setIfInBounds]
  rfl
set_option maxRecDepth 100000 in
set_option maxHeartbeats 4000000 in
theorem nx_0c (c : Tk) (x : AS) (TV : Value) (ok : Bool) (gn gm : Int) (gL : Value) (gid : Int) (gV : Value) (gt : Int) (w : World) (hV : c.V.oneCell' = true) (hT : TV.oneCell' = true) (hpc : x.pc = 0) (hk : c.k = 6) :
    Calls Try.prog 14 #[.agg (docA c x TV), .agg (gotL ok gn gm gL gid gV gt)] w (RetD c (x.ask 2 2 0 0 0) TV true w) := by
  obtain ⟨w1, hw1⟩ : ∃ y, (((w.alloc (.cells (docA c x TV) 39)).alloc (.cells (gotL ok gn gm gL gid (gV) gt) 42)).alloc (.cells docZ 39)).alloc (.cells opZ 44) = y := ⟨_, rfl⟩
  have s1 : (w.alloc (.cells (docA c x TV) 39)).heap.size = w.heap.size + 1 := by simp only [World.alloc, Array.size_push]
  have s2 : ((w.alloc (.cells (docA c x TV) 39)).alloc (.cells (gotL ok gn gm gL gid (gV) gt) 42)).heap.size = w.heap.size + 1 + 1 := by simp only [World.alloc, Array.size_push]
  have s3 : (((w.alloc (.cells (docA c x TV) 39)).alloc (.cells (gotL ok gn gm gL gid (gV) gt) 42)).alloc (.cells docZ 39)).heap.size = w.heap.size + 1 + 1 + 1 := by simp only [World.alloc, Array.size_push]
  have D1 : Blk w1 w.heap.size 39 (docA c x TV) := by rw [← hw1]; exact (((Blk.new _ _ _).alloc _).alloc _).alloc _
  have G1 : Blk w1 (w.heap.size + 1) 42 (gotL ok gn gm gL gid (gV) gt) := by rw [← hw1, ← s1]; exact ((Blk.new _ _ _).alloc _).alloc _
  have Z1 : Blk w1 (w.heap.size + 1 + 1) 39 docZ := by rw [← hw1, ← s2]; exact (Blk.new _ _ _).alloc _
  have O1 : Blk w1 (w.heap.size + 1 + 1 + 1) 44 opZ := by rw [← hw1, ← s3]; exact Blk.new _ _ _
  have b1 : Below w.heap.size w w1 := by rw [← hw1]; exact ((((Below.refl _ w).alloc (Nat.le_refl _) _).alloc (by rw [s1]; omega) _).alloc (by rw [s2]; omega) _).alloc (by rw [s3]; omega) _
  have c8 : w1.cell? ⟨w.heap.size, 8, none⟩ = some (.int .i64 0) := by
    have q : w1.cell? ⟨w.heap.size, 8, none⟩ = some (Value.int .i64 (x.pc : Int)) := D1.cell 8
    rw [hpc] at q; exact q
  clear s1 s2 s3
  have hT' := hT
  have c0 : w1.cell? ⟨w.heap.size, 0, none⟩ = some (.int .i64 c.k) := D1.cell 0
  rw [hk] at c0
  have L1 := doc_load D1
  have HC := Lib.hid (rf_ask c x TV 2 2 0 0 0 w1 hV hT')
  have HZ := Lib.hid Z1
  have HO := Lib.hid O1
  have HB := Lib.hid b1
  clear D1 Z1 O1 b1
  clear G1 hpc
  unfold docZ opZ at hw1
  go_enter Try.func14, Try.ntmps14
  go_upto_region 1 with fail
  (try rw [hw1])
  clear hw1
  go_wp2_with (refine wpList_loadE L1 _ rfl rfl rfl ?_)
  refine HC.out.mono ?_
  rintro e w' ⟨rfl, b'⟩
  obtain ⟨w3', w4', S2, S3, HD4, HO4, HB4, _⟩ := nx_tail c (x.ask 2 2 0 0 0) TV hV hT' HZ.out HO.out HB.out b'
  clear HC HZ HO HB b' L1 hV hT hT'
  go_wp2_with (first | refine wpList_storeE S2 _ _ rfl rfl rfl rfl ?_ | refine wpList_storeE S3 _ _ rfl rfl rfl rfl ?_)
  refine bodyPost_ret (v := .tuple #[.agg (docA c (x.ask 2 2 0 0 0) TV), .agg (opX (x.ask 2 2 0 0 0)), .bool true]) ?_ rfl ⟨rfl, HB4.out⟩
  exact results_rows2 (P := Try.prog) Try.results14 _ rfl rfl HD4.out HO4.out Try.underlying39 rfl docT Try.underlying44 rfl opT
set_option maxRecDepth 100000 in
set_option maxHeartbeats 4000000 in
theorem nx_0o (c : Tk) (x : AS) (TV : Value) (ok : Bool) (gn gm : Int) (gL : Value) (gid : Int) (gV : Value) (gt : Int) (w : World) (hV : c.V.oneCell' = true) (hT : TV.oneCell' = true) (hpc : x.pc = 0) (_hk : (c.k == 6) = false) :
    Calls Try.prog 14 #[.agg (docA c x TV), .agg (gotL ok gn gm gL gid gV gt)] w (RetD c (x.ask 1 1 0 0 0) TV true w) := by
  obtain ⟨w1, hw1⟩ : ∃ y, (((w.alloc (.cells (docA c x TV) 39)).alloc (.cells (gotL ok gn gm gL gid (gV) gt) 42)).alloc (.cells docZ 39)).alloc (.cells opZ 44) = y := ⟨_, rfl⟩
  have s1 : (w.alloc (.cells (docA c x TV) 39)).heap.size = w.heap.size + 1 := by simp only [World.alloc, Array.size_push]
  have s2 : ((w.alloc (.cells (docA c x TV) 39)).alloc (.cells (gotL ok gn gm gL gid (gV) gt) 42)).heap.size = w.heap.size + 1 + 1 := by simp only [World.alloc, Array.size_push]
  have s3 : (((w.alloc (.cells (docA c x TV) 39)).alloc (.cells (gotL ok gn gm gL gid (gV) gt) 42)).alloc (.cells docZ 39)).heap.size = w.heap.size + 1 + 1 + 1 := by simp only [World.alloc, Array.size_push]
  have D1 : Blk w1 w.heap.size 39 (docA c x TV) := by rw [← hw1]; exact (((Blk.new _ _ _).alloc _).alloc _).alloc _
  have G1 : Blk w1 (w.heap.size + 1) 42 (gotL ok gn gm gL gid (gV) gt) := by rw [← hw1, ← s1]; exact ((Blk.new _ _ _).alloc _).alloc _
  have Z1 : Blk w1 (w.heap.size + 1 + 1) 39 docZ := by rw [← hw1, ← s2]; exact (Blk.new _ _ _).alloc _
  have O1 : Blk w1 (w.heap.size + 1 + 1 + 1) 44 opZ := by rw [← hw1, ← s3]; exact Blk.new _ _ _
  have b1 : Below w.heap.size w w1 := by rw [← hw1]; exact ((((Below.refl _ w).alloc (Nat.le_refl _) _).alloc (by rw [s1]; omega) _).alloc (by rw [s2]; omega) _).alloc (by rw [s3]; omega) _
  have c8 : w1.cell? ⟨w.heap.size, 8, none⟩ = some (.int .i64 0) := by
    have q : w1.cell? ⟨w.heap.size, 8, none⟩ = some (Value.int .i64 (x.pc : Int)) := D1.cell 8
    rw [hpc] at q; exact q
  clear s1 s2 s3
  have hT' := hT
  have c0 : w1.cell? ⟨w.heap.size, 0, none⟩ = some (.int .i64 c.k) := D1.cell 0
  have L1 := doc_load D1
  have HC := Lib.hid (rf_ask c x TV 1 1 0 0 0 w1 hV hT')
  have HZ := Lib.hid Z1
  have HO := Lib.hid O1
  have HB := Lib.hid b1
  clear D1 Z1 O1 b1
  clear G1 hpc
  unfold docZ opZ at hw1
  go_enter Try.func14, Try.ntmps14
  go_upto_region 1 with fail
  (try rw [hw1])
  clear hw1
  go_wp2_with (refine wpList_loadE L1 _ rfl rfl rfl ?_)
  refine HC.out.mono ?_
  rintro e w' ⟨rfl, b'⟩
  obtain ⟨w3', w4', S2, S3, HD4, HO4, HB4, _⟩ := nx_tail c (x.ask 1 1 0 0 0) TV hV hT' HZ.out HO.out HB.out b'
  clear HC HZ HO HB b' L1 hV hT hT'
  go_wp2_with (first | refine wpList_storeE S2 _ _ rfl rfl rfl rfl ?_ | refine wpList_storeE S3 _ _ rfl rfl rfl rfl ?_)
  refine bodyPost_ret (v := .tuple #[.agg (docA c (x.ask 1 1 0 0 0) TV), .agg (opX (x.ask 1 1 0 0 0)), .bool true]) ?_ rfl ⟨rfl, HB4.out⟩
  exact results_rows2 (P := Try.prog) Try.results14 _ rfl rfl HD4.out HO4.out Try.underlying39 rfl docT Try.underlying44 rfl opT
set_option maxRecDepth 100000 in
set_option maxHeartbeats 4000000 in
theorem nx_5 (c : Tk) (x : AS) (TV : Value) (ok : Bool) (gn gm : Int) (gL : Value) (gid : Int) (gV : Value) (gt : Int) (w : World) (hV : c.V.oneCell' = true) (hT : TV.oneCell' = true) (hpc : x.pc = 5)  :
    Calls Try.prog 14 #[.agg (docA c x TV), .agg (gotL ok gn gm gL gid gV gt)] w (RetD c (x.ask 6 15 0 0 c.id) TV true w) := by
  obtain ⟨w1, hw1⟩ : ∃ y, (((w.alloc (.cells (docA c x TV) 39)).alloc (.cells (gotL ok gn gm gL gid (gV) gt) 42)).alloc (.cells docZ 39)).alloc (.cells opZ 44) = y := ⟨_, rfl⟩
  have s1 : (w.alloc (.cells (docA c x TV) 39)).heap.size = w.heap.size + 1 := by simp only [World.alloc, Array.size_push]
  have s2 : ((w.alloc (.cells (docA c x TV) 39)).alloc (.cells (gotL ok gn gm gL gid (gV) gt) 42)).heap.size = w.heap.size + 1 + 1 := by simp only [World.alloc, Array.size_push]
  have s3 : (((w.alloc (.cells (docA c x TV) 39)).alloc (.cells (gotL ok gn gm gL gid (gV) gt) 42)).alloc (.cells docZ 39)).heap.size = w.heap.size + 1 + 1 + 1 := by simp only [World.alloc, Array.size_push]
  have D1 : Blk w1 w.heap.size 39 (docA c x TV) := by rw [← hw1]; exact (((Blk.new _ _ _).alloc _).alloc _).alloc _
  have G1 : Blk w1 (w.heap.size + 1) 42 (gotL ok gn gm gL gid (gV) gt) := by rw [← hw1, ← s1]; exact ((Blk.new _ _ _).alloc _).alloc _
  have Z1 : Blk w1 (w.heap.size + 1 + 1) 39 docZ := by rw [← hw1, ← s2]; exact (Blk.new _ _ _).alloc _
  have O1 : Blk w1 (w.heap.size + 1 + 1 + 1) 44 opZ := by rw [← hw1, ← s3]; exact Blk.new _ _ _
  have b1 : Below w.heap.size w w1 := by rw [← hw1]; exact ((((Below.refl _ w).alloc (Nat.le_refl _) _).alloc (by rw [s1]; omega) _).alloc (by rw [s2]; omega) _).alloc (by rw [s3]; omega) _
  have c8 : w1.cell? ⟨w.heap.size, 8, none⟩ = some (.int .i64 5) := by
    have q : w1.cell? ⟨w.heap.size, 8, none⟩ = some (Value.int .i64 (x.pc : Int)) := D1.cell 8
    rw [hpc] at q; exact q
  clear s1 s2 s3
  have hT' := hT
  have c1 : w1.cell? ⟨w.heap.size, 1, none⟩ = some (.int .u64 c.id) := D1.cell 1
  have L1 := doc_load D1
  have HC := Lib.hid (rf_ask c x TV 6 15 0 0 c.id w1 hV hT')
  have HZ := Lib.hid Z1
  have HO := Lib.hid O1
  have HB := Lib.hid b1
  clear D1 Z1 O1 b1
  clear G1 hpc
  unfold docZ opZ at hw1
  go_enter Try.func14, Try.ntmps14
  go_upto_region 1 with fail
  (try rw [hw1])
  clear hw1
  go_wp2_with (refine wpList_loadE L1 _ rfl rfl rfl ?_)
  refine HC.out.mono ?_
  rintro e w' ⟨rfl, b'⟩
  obtain ⟨w3', w4', S2, S3, HD4, HO4, HB4, _⟩ := nx_tail c (x.ask 6 15 0 0 c.id) TV hV hT' HZ.out HO.out HB.out b'
  clear HC HZ HO HB b' L1 hV hT hT'
  go_wp2_with (first | refine wpList_storeE S2 _ _ rfl rfl rfl rfl ?_ | refine wpList_storeE S3 _ _ rfl rfl rfl rfl ?_)
  refine bodyPost_ret (v := .tuple #[.agg (docA c (x.ask 6 15 0 0 c.id) TV), .agg (opX (x.ask 6 15 0 0 c.id)), .bool true]) ?_ rfl ⟨rfl, HB4.out⟩
  exact results_rows2 (P := Try.prog) Try.results14 _ rfl rfl HD4.out HO4.out Try.underlying39 rfl docT Try.underlying44 rfl opT
set_option maxRecDepth 100000 in
set_option maxHeartbeats 4000000 in
theorem nx_8 (c : Tk) (x : AS) (TV : Value) (ok : Bool) (gn gm : Int) (gL : Value) (gid : Int) (gV : Value) (gt : Int) (w : World) (hV : c.V.oneCell' = true) (hT : TV.oneCell' = true) (hpc : x.pc = 8)  :
    Calls Try.prog 14 #[.agg (docA c x TV), .agg (gotL ok gn gm gL gid gV gt)] w (RetD c (x.ask 9 0 0 0 0) TV false w) := by
  obtain ⟨w1, hw1⟩ : ∃ y, (((w.alloc (.cells (docA c x TV) 39)).alloc (.cells (gotL ok gn gm gL gid (gV) gt) 42)).alloc (.cells docZ 39)).alloc (.cells opZ 44) = y := ⟨_, rfl⟩
  have s1 : (w.alloc (.cells (docA c x TV) 39)).heap.size = w.heap.size + 1 := by simp only [World.alloc, Array.size_push]
  have s2 : ((w.alloc (.cells (docA c x TV) 39)).alloc (.cells (gotL ok gn gm gL gid (gV) gt) 42)).heap.size = w.heap.size + 1 + 1 := by simp only [World.alloc, Array.size_push]
  have s3 : (((w.alloc (.cells (docA c x TV) 39)).alloc (.cells (gotL ok gn gm gL gid (gV) gt) 42)).alloc (.cells docZ 39)).heap.size = w.heap.size + 1 + 1 + 1 := by simp only [World.alloc, Array.size_push]
  have D1 : Blk w1 w.heap.size 39 (docA c x TV) := by rw [← hw1]; exact (((Blk.new _ _ _).alloc _).alloc _).alloc _
  have G1 : Blk w1 (w.heap.size + 1) 42 (gotL ok gn gm gL gid (gV) gt) := by rw [← hw1, ← s1]; exact ((Blk.new _ _ _).alloc _).alloc _
  have Z1 : Blk w1 (w.heap.size + 1 + 1) 39 docZ := by rw [← hw1, ← s2]; exact (Blk.new _ _ _).alloc _
  have O1 : Blk w1 (w.heap.size + 1 + 1 + 1) 44 opZ := by rw [← hw1, ← s3]; exact Blk.new _ _ _
  have b1 : Below w.heap.size w w1 := by rw [← hw1]; exact ((((Below.refl _ w).alloc (Nat.le_refl _) _).alloc (by rw [s1]; omega) _).alloc (by rw [s2]; omega) _).alloc (by rw [s3]; omega) _
  have c8 : w1.cell? ⟨w.heap.size, 8, none⟩ = some (.int .i64 8) := by
    have q : w1.cell? ⟨w.heap.size, 8, none⟩ = some (Value.int .i64 (x.pc : Int)) := D1.cell 8
    rw [hpc] at q; exact q
  clear s1 s2 s3
  have hT' := hT
  have L1 := doc_load D1
  have HC := Lib.hid (rf_over c x TV w1 hV hT')
  have HZ := Lib.hid Z1
  have HO := Lib.hid O1
  have HB := Lib.hid b1
  clear D1 Z1 O1 b1
  clear G1 hpc
  unfold docZ opZ at hw1
  go_enter Try.func14, Try.ntmps14
  go_upto_region 1 with fail
  (try rw [hw1])
  clear hw1
  go_wp2_with (refine wpList_loadE L1 _ rfl rfl rfl ?_)
  refine HC.out.mono ?_
  rintro e w' ⟨rfl, b'⟩
  obtain ⟨w3', w4', S2, S3, HD4, HO4, HB4, _⟩ := nx_tail c (x.ask 9 0 0 0 0) TV hV hT' HZ.out HO.out HB.out b'
  clear HC HZ HO HB b' L1 hV hT hT'
  go_wp2_with (first | refine wpList_storeE S2 _ _ rfl rfl rfl rfl ?_ | refine wpList_storeE S3 _ _ rfl rfl rfl rfl ?_)
  refine bodyPost_ret (v := .tuple #[.agg (docA c (x.ask 9 0 0 0 0) TV), .agg (opX (x.ask 9 0 0 0 0)), .bool false]) ?_ rfl ⟨rfl, HB4.out⟩
  exact results_rows2 (P := Try.prog) Try.results14 _ rfl rfl HD4.out HO4.out Try.underlying39 rfl docT Try.underlying44 rfl opT
set_option maxRecDepth 100000 in
set_option maxHeartbeats 4000000 in
theorem nx_9 (c : Tk) (x : AS) (TV : Value) (ok : Bool) (gn gm : Int) (gL : Value) (gid : Int) (gV : Value) (gt : Int) (w : World) (hV : c.V.oneCell' = true) (hT : TV.oneCell' = true) (hpc : x.pc = 9)  :
    Calls Try.prog 14 #[.agg (docA c x TV), .agg (gotL ok gn gm gL gid gV gt)] w (RetD c (x.ask 9 0 0 0 0) TV false w) := by
  obtain ⟨w1, hw1⟩ : ∃ y, (((w.alloc (.cells (docA c x TV) 39)).alloc (.cells (gotL ok gn gm gL gid (gV) gt) 42)).alloc (.cells docZ 39)).alloc (.cells opZ 44) = y := ⟨_, rfl⟩
  have s1 : (w.alloc (.cells (docA c x TV) 39)).heap.size = w.heap.size + 1 := by simp only [World.alloc, Array.size_push]
  have s2 : ((w.alloc (.cells (docA c x TV) 39)).alloc (.cells (gotL ok gn gm gL gid (gV) gt) 42)).heap.size = w.heap.size + 1 + 1 := by simp only [World.alloc, Array.size_push]
  have s3 : (((w.alloc (.cells (docA c x TV) 39)).alloc (.cells (gotL ok gn gm gL gid (gV) gt) 42)).alloc (.cells docZ 39)).heap.size = w.heap.size + 1 + 1 + 1 := by simp only [World.alloc, Array.size_push]
  have D1 : Blk w1 w.heap.size 39 (docA c x TV) := by rw [← hw1]; exact (((Blk.new _ _ _).alloc _).alloc _).alloc _
  have G1 : Blk w1 (w.heap.size + 1) 42 (gotL ok gn gm gL gid (gV) gt) := by rw [← hw1, ← s1]; exact ((Blk.new _ _ _).alloc _).alloc _
  have Z1 : Blk w1 (w.heap.size + 1 + 1) 39 docZ := by rw [← hw1, ← s2]; exact (Blk.new _ _ _).alloc _
  have O1 : Blk w1 (w.heap.size + 1 + 1 + 1) 44 opZ := by rw [← hw1, ← s3]; exact Blk.new _ _ _
  have b1 : Below w.heap.size w w1 := by rw [← hw1]; exact ((((Below.refl _ w).alloc (Nat.le_refl _) _).alloc (by rw [s1]; omega) _).alloc (by rw [s2]; omega) _).alloc (by rw [s3]; omega) _
  have c8 : w1.cell? ⟨w.heap.size, 8, none⟩ = some (.int .i64 9) := by
    have q : w1.cell? ⟨w.heap.size, 8, none⟩ = some (Value.int .i64 (x.pc : Int)) := D1.cell 8
    rw [hpc] at q; exact q
  clear s1 s2 s3
  have hT' := hT
  have L1 := doc_load D1
  have HC := Lib.hid (rf_over c x TV w1 hV hT')
  have HZ := Lib.hid Z1
  have HO := Lib.hid O1
  have HB := Lib.hid b1
  clear D1 Z1 O1 b1
  clear G1 hpc
  unfold docZ opZ at hw1
  go_enter Try.func14, Try.ntmps14
  go_upto_region 1 with fail
  (try rw [hw1])
  clear hw1
  go_wp2_with (refine wpList_loadE L1 _ rfl rfl rfl ?_)
  refine HC.out.mono ?_
  rintro e w' ⟨rfl, b'⟩
  obtain ⟨w3', w4', S2, S3, HD4, HO4, HB4, _⟩ := nx_tail c (x.ask 9 0 0 0 0) TV hV hT' HZ.out HO.out HB.out b'
  clear HC HZ HO HB b' L1 hV hT hT'
  go_wp2_with (first | refine wpList_storeE S2 _ _ rfl rfl rfl rfl ?_ | refine wpList_storeE S3 _ _ rfl rfl rfl rfl ?_)
  refine bodyPost_ret (v := .tuple #[.agg (docA c (x.ask 9 0 0 0 0) TV), .agg (opX (x.ask 9 0 0 0 0)), .bool false]) ?_ rfl ⟨rfl, HB4.out⟩
  exact results_rows2 (P := Try.prog) Try.results14 _ rfl rfl HD4.out HO4.out Try.underlying39 rfl docT Try.underlying44 rfl opT
set_option maxRecDepth 100000 in
set_option maxHeartbeats 4000000 in
theorem nx_2t (c : Tk) (x : AS) (TV : Value) (ok : Bool) (gn gm : Int) (gL : Value) (gid : Int) (gV : Value) (gt : Int) (w : World) (hx : x.Ok) (hV : c.V.oneCell' = true) (hT : TV.oneCell' = true) (hpc : x.pc = 2) (hok : ok = true) :
    Calls Try.prog 14 #[.agg (docA c x TV), .agg (gotL ok gn gm gL gid gV gt)] w (RetD c (({ x with marks := x.marks + 1, err := 0 } : AS).ask 9 0 0 0 0) TV false w) := by
  subst hok
  obtain ⟨w1, hw1⟩ : ∃ y, (((w.alloc (.cells (docA c x TV) 39)).alloc (.cells (gotL true gn gm gL gid (gV) gt) 42)).alloc (.cells docZ 39)).alloc (.cells opZ 44) = y := ⟨_, rfl⟩
  have s1 : (w.alloc (.cells (docA c x TV) 39)).heap.size = w.heap.size + 1 := by simp only [World.alloc, Array.size_push]
  have s2 : ((w.alloc (.cells (docA c x TV) 39)).alloc (.cells (gotL true gn gm gL gid (gV) gt) 42)).heap.size = w.heap.size + 1 + 1 := by simp only [World.alloc, Array.size_push]
  have s3 : (((w.alloc (.cells (docA c x TV) 39)).alloc (.cells (gotL true gn gm gL gid (gV) gt) 42)).alloc (.cells docZ 39)).heap.size = w.heap.size + 1 + 1 + 1 := by simp only [World.alloc, Array.size_push]
  have D1 : Blk w1 w.heap.size 39 (docA c x TV) := by rw [← hw1]; exact (((Blk.new _ _ _).alloc _).alloc _).alloc _
  have G1 : Blk w1 (w.heap.size + 1) 42 (gotL true gn gm gL gid (gV) gt) := by rw [← hw1, ← s1]; exact ((Blk.new _ _ _).alloc _).alloc _
  have Z1 : Blk w1 (w.heap.size + 1 + 1) 39 docZ := by rw [← hw1, ← s2]; exact (Blk.new _ _ _).alloc _
  have O1 : Blk w1 (w.heap.size + 1 + 1 + 1) 44 opZ := by rw [← hw1, ← s3]; exact Blk.new _ _ _
  have b1 : Below w.heap.size w w1 := by rw [← hw1]; exact ((((Below.refl _ w).alloc (Nat.le_refl _) _).alloc (by rw [s1]; omega) _).alloc (by rw [s2]; omega) _).alloc (by rw [s3]; omega) _
  have c8 : w1.cell? ⟨w.heap.size, 8, none⟩ = some (.int .i64 2) := by
    have q : w1.cell? ⟨w.heap.size, 8, none⟩ = some (Value.int .i64 (x.pc : Int)) := D1.cell 8
    rw [hpc] at q; exact q
  clear s1 s2 s3
  have hm : x.marks = 0 := by rw [hx.marks, if_pos (by omega)]
  have c9 : w1.cell? ⟨w.heap.size, 9, none⟩ = some (.int .i64 0) := by
    show _ = some (Value.int .i64 ((0 : Nat) : Int))
    rw [← hm]; exact D1.cell 9
  have f9 := D1.frozen
  have he : ({ x with marks := x.marks + 1 } : AS) = { x with marks := x.marks + 1, err := 0 } := by rw [← hx.err (by omega)]
  have g0 : w1.cell? ⟨w.heap.size + 1, 0, none⟩ = some (.bool true) := G1.cell 0
  have D1s0 : Blk (w1.setCell ⟨w.heap.size, 9, none⟩ (.int .i64 1)) w.heap.size 39 (docA c { x with marks := x.marks + 1, err := 0 } TV) := by
    have := D1.set_ 9 (.int .i64 1)
    rw [docA_mark1 c x TV hm, he] at this; exact this
  have Z2 : Blk (w1.setCell ⟨w.heap.size, 9, none⟩ (.int .i64 1)) (w.heap.size + 1 + 1) 39 docZ := Z1.tch (Tch.setCell (S := fun k => k = w.heap.size) (Tch.refl _ w1) (g := w.heap.size) rfl 9 _) (by omega)
  have O2 : Blk (w1.setCell ⟨w.heap.size, 9, none⟩ (.int .i64 1)) (w.heap.size + 1 + 1 + 1) 44 opZ := O1.tch (Tch.setCell (S := fun k => k = w.heap.size) (Tch.refl _ w1) (g := w.heap.size) rfl 9 _) (by omega)
  have b2 : Below w.heap.size w (w1.setCell ⟨w.heap.size, 9, none⟩ (.int .i64 1)) := b1.trans ((Tch.setCell (S := fun k => k = w.heap.size) (Tch.refl _ w1) (g := w.heap.size) rfl 9 _).below b1.size (fun k q => by omega))
  have G2 : Blk (w1.setCell ⟨w.heap.size, 9, none⟩ (.int .i64 1)) (w.heap.size + 1) 42 (gotL true gn gm gL gid (gV) gt) := G1.tch (Tch.setCell (S := fun k => k = w.heap.size) (Tch.refl _ w1) (g := w.heap.size) rfl 9 _) (show w.heap.size + 1 ≠ w.heap.size by omega)
  have D2 := D1s0
  obtain ⟨w2, hw2⟩ : ∃ y, (w1.setCell ⟨w.heap.size, 9, none⟩ (.int .i64 1)) = y := ⟨_, rfl⟩
  rw [hw2] at D2 Z2 O2 b2 G2
  have k0 : w2.cell? ⟨w.heap.size + 1, 0, none⟩ = some (.bool true) := G2.cell 0
  have k1 : w2.cell? ⟨w.heap.size + 1, 1, none⟩ = some (.int .i64 gn) := G2.cell 1
  clear G2
  have hT' : (TV).oneCell' = true := hT
  have L2 := doc_load D2
  have HC := Lib.hid (rf_over c { x with marks := x.marks + 1, err := 0 } TV w2 hV hT')
  have HZ := Lib.hid Z2
  have HO := Lib.hid O2
  have HB := Lib.hid b2
  clear D2 Z2 O2 b2
  clear D1s0 D1 Z1 O1 b1 G1 hx hpc
  clear hm
  unfold docZ opZ at hw1
  go_enter Try.func14, Try.ntmps14
  go_upto_region 1 with fail
  (try rw [hw1])
  clear hw1
  go_wp2_with (refine wpList_loadE L2 _ rfl rfl rfl ?_)
  refine HC.out.mono ?_
  rintro e w' ⟨rfl, b'⟩
  obtain ⟨w3', w4', S2, S3, HD4, HO4, HB4, _⟩ := nx_tail c (({ x with marks := x.marks + 1, err := 0 } : AS).ask 9 0 0 0 0) TV hV hT' HZ.out HO.out HB.out b'
  clear HC HZ HO HB b' L2 hV hT hT'
  go_wp2_with (first | refine wpList_storeE S2 _ _ rfl rfl rfl rfl ?_ | refine wpList_storeE S3 _ _ rfl rfl rfl rfl ?_)
  refine bodyPost_ret (v := .tuple #[.agg (docA c (({ x with marks := x.marks + 1, err := 0 } : AS).ask 9 0 0 0 0) TV), .agg (opX (({ x with marks := x.marks + 1, err := 0 } : AS).ask 9 0 0 0 0)), .bool false]) ?_ rfl ⟨rfl, HB4.out⟩
  exact results_rows2 (P := Try.prog) Try.results14 _ rfl rfl HD4.out HO4.out Try.underlying39 rfl docT Try.underlying44 rfl opT
set_option maxRecDepth 100000 in
set_option maxHeartbeats 4000000 in
theorem nx_2f (c : Tk) (x : AS) (TV : Value) (ok : Bool) (gn gm : Int) (gL : Value) (gid : Int) (gV : Value) (gt : Int) (w : World) (hx : x.Ok) (hV : c.V.oneCell' = true) (hT : TV.oneCell' = true) (hpc : x.pc = 2) (hok : ok = false) :
    Calls Try.prog 14 #[.agg (docA c x TV), .agg (gotL ok gn gm gL gid gV gt)] w (RetD c (({ x with marks := x.marks + 1, err := 5 } : AS).ask 9 0 0 0 0) TV false w) := by
  subst hok
  obtain ⟨w1, hw1⟩ : ∃ y, (((w.alloc (.cells (docA c x TV) 39)).alloc (.cells (gotL false gn gm gL gid (gV) gt) 42)).alloc (.cells docZ 39)).alloc (.cells opZ 44) = y := ⟨_, rfl⟩
  have s1 : (w.alloc (.cells (docA c x TV) 39)).heap.size = w.heap.size + 1 := by simp only [World.alloc, Array.size_push]
  have s2 : ((w.alloc (.cells (docA c x TV) 39)).alloc (.cells (gotL false gn gm gL gid (gV) gt) 42)).heap.size = w.heap.size + 1 + 1 := by simp only [World.alloc, Array.size_push]
  have s3 : (((w.alloc (.cells (docA c x TV) 39)).alloc (.cells (gotL false gn gm gL gid (gV) gt) 42)).alloc (.cells docZ 39)).heap.size = w.heap.size + 1 + 1 + 1 := by simp only [World.alloc, Array.size_push]
  have D1 : Blk w1 w.heap.size 39 (docA c x TV) := by rw [← hw1]; exact (((Blk.new _ _ _).alloc _).alloc _).alloc _
  have G1 : Blk w1 (w.heap.size + 1) 42 (gotL false gn gm gL gid (gV) gt) := by rw [← hw1, ← s1]; exact ((Blk.new _ _ _).alloc _).alloc _
  have Z1 : Blk w1 (w.heap.size + 1 + 1) 39 docZ := by rw [← hw1, ← s2]; exact (Blk.new _ _ _).alloc _
  have O1 : Blk w1 (w.heap.size + 1 + 1 + 1) 44 opZ := by rw [← hw1, ← s3]; exact Blk.new _ _ _
  have b1 : Below w.heap.size w w1 := by rw [← hw1]; exact ((((Below.refl _ w).alloc (Nat.le_refl _) _).alloc (by rw [s1]; omega) _).alloc (by rw [s2]; omega) _).alloc (by rw [s3]; omega) _
  have c8 : w1.cell? ⟨w.heap.size, 8, none⟩ = some (.int .i64 2) := by
    have q : w1.cell? ⟨w.heap.size, 8, none⟩ = some (Value.int .i64 (x.pc : Int)) := D1.cell 8
    rw [hpc] at q; exact q
  clear s1 s2 s3
  have hm : x.marks = 0 := by rw [hx.marks, if_pos (by omega)]
  have c9 : w1.cell? ⟨w.heap.size, 9, none⟩ = some (.int .i64 0) := by
    show _ = some (Value.int .i64 ((0 : Nat) : Int))
    rw [← hm]; exact D1.cell 9
  have f9 := D1.frozen
  have g0 : w1.cell? ⟨w.heap.size + 1, 0, none⟩ = some (.bool false) := G1.cell 0
  have c18 : w1.cell? ⟨w.heap.size, 18, none⟩ = some (.int .i64 x.err) := D1.cell 18
  have D1s0 : Blk (w1.setCell ⟨w.heap.size, 9, none⟩ (.int .i64 1)) w.heap.size 39 (docA c { x with marks := x.marks + 1 } TV) := by
    have := D1.set_ 9 (.int .i64 1)
    rw [docA_mark1 c x TV hm] at this; exact this
  have D1s1 : Blk ((w1.setCell ⟨w.heap.size, 9, none⟩ (.int .i64 1)).setCell ⟨w.heap.size, 18, none⟩ (.int .i64 5)) w.heap.size 39 (docA c { x with marks := x.marks + 1, err := 5 } TV) := by
    have := D1s0.set_ 18 (.int .i64 5)
    rw [docA_err] at this; exact this
  have Z2 : Blk ((w1.setCell ⟨w.heap.size, 9, none⟩ (.int .i64 1)).setCell ⟨w.heap.size, 18, none⟩ (.int .i64 5)) (w.heap.size + 1 + 1) 39 docZ := Z1.tch (Tch.setCell (S := fun k => k = w.heap.size) (Tch.setCell (S := fun k => k = w.heap.size) (Tch.refl _ w1) (g := w.heap.size) rfl 9 _) (g := w.heap.size) rfl 18 _) (by omega)
  have O2 : Blk ((w1.setCell ⟨w.heap.size, 9, none⟩ (.int .i64 1)).setCell ⟨w.heap.size, 18, none⟩ (.int .i64 5)) (w.heap.size + 1 + 1 + 1) 44 opZ := O1.tch (Tch.setCell (S := fun k => k = w.heap.size) (Tch.setCell (S := fun k => k = w.heap.size) (Tch.refl _ w1) (g := w.heap.size) rfl 9 _) (g := w.heap.size) rfl 18 _) (by omega)
  have b2 : Below w.heap.size w ((w1.setCell ⟨w.heap.size, 9, none⟩ (.int .i64 1)).setCell ⟨w.heap.size, 18, none⟩ (.int .i64 5)) := b1.trans ((Tch.setCell (S := fun k => k = w.heap.size) (Tch.setCell (S := fun k => k = w.heap.size) (Tch.refl _ w1) (g := w.heap.size) rfl 9 _) (g := w.heap.size) rfl 18 _).below b1.size (fun k q => by omega))
  have G2 : Blk ((w1.setCell ⟨w.heap.size, 9, none⟩ (.int .i64 1)).setCell ⟨w.heap.size, 18, none⟩ (.int .i64 5)) (w.heap.size + 1) 42 (gotL false gn gm gL gid (gV) gt) := G1.tch (Tch.setCell (S := fun k => k = w.heap.size) (Tch.setCell (S := fun k => k = w.heap.size) (Tch.refl _ w1) (g := w.heap.size) rfl 9 _) (g := w.heap.size) rfl 18 _) (show w.heap.size + 1 ≠ w.heap.size by omega)
  have D2 := D1s1
  obtain ⟨w2, hw2⟩ : ∃ y, ((w1.setCell ⟨w.heap.size, 9, none⟩ (.int .i64 1)).setCell ⟨w.heap.size, 18, none⟩ (.int .i64 5)) = y := ⟨_, rfl⟩
  rw [hw2] at D2 Z2 O2 b2 G2
  have k0 : w2.cell? ⟨w.heap.size + 1, 0, none⟩ = some (.bool false) := G2.cell 0
  have k1 : w2.cell? ⟨w.heap.size + 1, 1, none⟩ = some (.int .i64 gn) := G2.cell 1
  clear G2
  have hT' : (TV).oneCell' = true := hT
  have L2 := doc_load D2
  have HC := Lib.hid (rf_over c { x with marks := x.marks + 1, err := 5 } TV w2 hV hT')
  have HZ := Lib.hid Z2
  have HO := Lib.hid O2
  have HB := Lib.hid b2
  clear D2 Z2 O2 b2
  clear D1s0 D1s1 D1 Z1 O1 b1 G1 hx hpc
  clear hm
  unfold docZ opZ at hw1
  go_enter Try.func14, Try.ntmps14
  go_upto_region 1 with fail
  (try rw [hw1])
  clear hw1
  go_wp2_with (refine wpList_loadE L2 _ rfl rfl rfl ?_)
  refine HC.out.mono ?_
  rintro e w' ⟨rfl, b'⟩
  obtain ⟨w3', w4', S2, S3, HD4, HO4, HB4, _⟩ := nx_tail c (({ x with marks := x.marks + 1, err := 5 } : AS).ask 9 0 0 0 0) TV hV hT' HZ.out HO.out HB.out b'
  clear HC HZ HO HB b' L2 hV hT hT'
  go_wp2_with (first | refine wpList_storeE S2 _ _ rfl rfl rfl rfl ?_ | refine wpList_storeE S3 _ _ rfl rfl rfl rfl ?_)
  refine bodyPost_ret (v := .tuple #[.agg (docA c (({ x with marks := x.marks + 1, err := 5 } : AS).ask 9 0 0 0 0) TV), .agg (opX (({ x with marks := x.marks + 1, err := 5 } : AS).ask 9 0 0 0 0)), .bool false]) ?_ rfl ⟨rfl, HB4.out⟩
  exact results_rows2 (P := Try.prog) Try.results14 _ rfl rfl HD4.out HO4.out Try.underlying39 rfl docT Try.underlying44 rfl opT
set_option maxRecDepth 100000 in
set_option maxHeartbeats 4000000 in
theorem nx_3 (c : Tk) (x : AS) (TV : Value) (ok : Bool) (gn gm : Int) (gL : Value) (gid : Int) (gV : Value) (gt : Int) (w : World) (hx : x.Ok) (hV : c.V.oneCell' = true) (hT : TV.oneCell' = true) (hpc : x.pc = 3)  :
    Calls Try.prog 14 #[.agg (docA c x TV), .agg (gotL ok gn gm gL gid gV gt)] w (RetD c (({ x with marks := x.marks + 1, err := 0, len := gn } : AS).ask 9 0 0 0 0) TV false w) := by
  obtain ⟨w1, hw1⟩ : ∃ y, (((w.alloc (.cells (docA c x TV) 39)).alloc (.cells (gotL ok gn gm gL gid (gV) gt) 42)).alloc (.cells docZ 39)).alloc (.cells opZ 44) = y := ⟨_, rfl⟩
  have s1 : (w.alloc (.cells (docA c x TV) 39)).heap.size = w.heap.size + 1 := by simp only [World.alloc, Array.size_push]
  have s2 : ((w.alloc (.cells (docA c x TV) 39)).alloc (.cells (gotL ok gn gm gL gid (gV) gt) 42)).heap.size = w.heap.size + 1 + 1 := by simp only [World.alloc, Array.size_push]
  have s3 : (((w.alloc (.cells (docA c x TV) 39)).alloc (.cells (gotL ok gn gm gL gid (gV) gt) 42)).alloc (.cells docZ 39)).heap.size = w.heap.size + 1 + 1 + 1 := by simp only [World.alloc, Array.size_push]
  have D1 : Blk w1 w.heap.size 39 (docA c x TV) := by rw [← hw1]; exact (((Blk.new _ _ _).alloc _).alloc _).alloc _
  have G1 : Blk w1 (w.heap.size + 1) 42 (gotL ok gn gm gL gid (gV) gt) := by rw [← hw1, ← s1]; exact ((Blk.new _ _ _).alloc _).alloc _
  have Z1 : Blk w1 (w.heap.size + 1 + 1) 39 docZ := by rw [← hw1, ← s2]; exact (Blk.new _ _ _).alloc _
  have O1 : Blk w1 (w.heap.size + 1 + 1 + 1) 44 opZ := by rw [← hw1, ← s3]; exact Blk.new _ _ _
  have b1 : Below w.heap.size w w1 := by rw [← hw1]; exact ((((Below.refl _ w).alloc (Nat.le_refl _) _).alloc (by rw [s1]; omega) _).alloc (by rw [s2]; omega) _).alloc (by rw [s3]; omega) _
  have c8 : w1.cell? ⟨w.heap.size, 8, none⟩ = some (.int .i64 3) := by
    have q : w1.cell? ⟨w.heap.size, 8, none⟩ = some (Value.int .i64 (x.pc : Int)) := D1.cell 8
    rw [hpc] at q; exact q
  clear s1 s2 s3
  have hm : x.marks = 0 := by rw [hx.marks, if_pos (by omega)]
  have c9 : w1.cell? ⟨w.heap.size, 9, none⟩ = some (.int .i64 0) := by
    show _ = some (Value.int .i64 ((0 : Nat) : Int))
    rw [← hm]; exact D1.cell 9
  have f9 := D1.frozen
  have he : ({ x with marks := x.marks + 1 } : AS) = { x with marks := x.marks + 1, err := 0 } := by rw [← hx.err (by omega)]
  have g1 : w1.cell? ⟨w.heap.size + 1, 1, none⟩ = some (.int .i64 gn) := G1.cell 1
  have c23 : w1.cell? ⟨w.heap.size, 23, none⟩ = some (.int .i64 x.len) := D1.cell 23
  have D1s0 : Blk (w1.setCell ⟨w.heap.size, 9, none⟩ (.int .i64 1)) w.heap.size 39 (docA c { x with marks := x.marks + 1, err := 0 } TV) := by
    have := D1.set_ 9 (.int .i64 1)
    rw [docA_mark1 c x TV hm, he] at this; exact this
  have D1s1 : Blk ((w1.setCell ⟨w.heap.size, 9, none⟩ (.int .i64 1)).setCell ⟨w.heap.size, 23, none⟩ (.int .i64 gn)) w.heap.size 39 (docA c { x with marks := x.marks + 1, err := 0, len := gn } TV) := by
    have := D1s0.set_ 23 (.int .i64 gn)
    rw [docA_len] at this; exact this
  have Z2 : Blk ((w1.setCell ⟨w.heap.size, 9, none⟩ (.int .i64 1)).setCell ⟨w.heap.size, 23, none⟩ (.int .i64 gn)) (w.heap.size + 1 + 1) 39 docZ := Z1.tch (Tch.setCell (S := fun k => k = w.heap.size) (Tch.setCell (S := fun k => k = w.heap.size) (Tch.refl _ w1) (g := w.heap.size) rfl 9 _) (g := w.heap.size) rfl 23 _) (by omega)
  have O2 : Blk ((w1.setCell ⟨w.heap.size, 9, none⟩ (.int .i64 1)).setCell ⟨w.heap.size, 23, none⟩ (.int .i64 gn)) (w.heap.size + 1 + 1 + 1) 44 opZ := O1.tch (Tch.setCell (S := fun k => k = w.heap.size) (Tch.setCell (S := fun k => k = w.heap.size) (Tch.refl _ w1) (g := w.heap.size) rfl 9 _) (g := w.heap.size) rfl 23 _) (by omega)
  have b2 : Below w.heap.size w ((w1.setCell ⟨w.heap.size, 9, none⟩ (.int .i64 1)).setCell ⟨w.heap.size, 23, none⟩ (.int .i64 gn)) := b1.trans ((Tch.setCell (S := fun k => k = w.heap.size) (Tch.setCell (S := fun k => k = w.heap.size) (Tch.refl _ w1) (g := w.heap.size) rfl 9 _) (g := w.heap.size) rfl 23 _).below b1.size (fun k q => by omega))
  have G2 : Blk ((w1.setCell ⟨w.heap.size, 9, none⟩ (.int .i64 1)).setCell ⟨w.heap.size, 23, none⟩ (.int .i64 gn)) (w.heap.size + 1) 42 (gotL ok gn gm gL gid (gV) gt) := G1.tch (Tch.setCell (S := fun k => k = w.heap.size) (Tch.setCell (S := fun k => k = w.heap.size) (Tch.refl _ w1) (g := w.heap.size) rfl 9 _) (g := w.heap.size) rfl 23 _) (show w.heap.size + 1 ≠ w.heap.size by omega)
  have D2 := D1s1
  obtain ⟨w2, hw2⟩ : ∃ y, ((w1.setCell ⟨w.heap.size, 9, none⟩ (.int .i64 1)).setCell ⟨w.heap.size, 23, none⟩ (.int .i64 gn)) = y := ⟨_, rfl⟩
  rw [hw2] at D2 Z2 O2 b2 G2
  have k0 : w2.cell? ⟨w.heap.size + 1, 0, none⟩ = some (.bool ok) := G2.cell 0
  have k1 : w2.cell? ⟨w.heap.size + 1, 1, none⟩ = some (.int .i64 gn) := G2.cell 1
  clear G2
  have hT' : (TV).oneCell' = true := hT
  have L2 := doc_load D2
  have HC := Lib.hid (rf_over c { x with marks := x.marks + 1, err := 0, len := gn } TV w2 hV hT')
  have HZ := Lib.hid Z2
  have HO := Lib.hid O2
  have HB := Lib.hid b2
  clear D2 Z2 O2 b2
  clear D1s0 D1s1 D1 Z1 O1 b1 G1 hx hpc
  clear hm
  unfold docZ opZ at hw1
  go_enter Try.func14, Try.ntmps14
  go_upto_region 1 with fail
  (try rw [hw1])
  clear hw1
  go_wp2_with (refine wpList_loadE L2 _ rfl rfl rfl ?_)
  refine HC.out.mono ?_
  rintro e w' ⟨rfl, b'⟩
  obtain ⟨w3', w4', S2, S3, HD4, HO4, HB4, _⟩ := nx_tail c (({ x with marks := x.marks + 1, err := 0, len := gn } : AS).ask 9 0 0 0 0) TV hV hT' HZ.out HO.out HB.out b'
  clear HC HZ HO HB b' L2 hV hT hT'
  go_wp2_with (first | refine wpList_storeE S2 _ _ rfl rfl rfl rfl ?_ | refine wpList_storeE S3 _ _ rfl rfl rfl rfl ?_)
  refine bodyPost_ret (v := .tuple #[.agg (docA c (({ x with marks := x.marks + 1, err := 0, len := gn } : AS).ask 9 0 0 0 0) TV), .agg (opX (({ x with marks := x.marks + 1, err := 0, len := gn } : AS).ask 9 0 0 0 0)), .bool false]) ?_ rfl ⟨rfl, HB4.out⟩
  exact results_rows2 (P := Try.prog) Try.results14 _ rfl rfl HD4.out HO4.out Try.underlying39 rfl docT Try.underlying44 rfl opT
set_option maxRecDepth 100000 in
set_option maxHeartbeats 4000000 in
theorem nx_6t (c : Tk) (x : AS) (TV : Value) (ok : Bool) (gn gm : Int) (gL : Value) (gid : Int) (gV : Value) (gt : Int) (w : World) (hx : x.Ok) (hV : c.V.oneCell' = true) (hT : TV.oneCell' = true) (hpc : x.pc = 6) (hok : ok = true) :
    Calls Try.prog 14 #[.agg (docA c x TV), .agg (gotL ok gn gm gL gid gV gt)] w (RetD c (({ x with marks := x.marks + 1, err := 0 } : AS).ask 7 27 gn 0 0) TV true w) := by
  subst hok
  obtain ⟨w1, hw1⟩ : ∃ y, (((w.alloc (.cells (docA c x TV) 39)).alloc (.cells (gotL true gn gm gL gid (gV) gt) 42)).alloc (.cells docZ 39)).alloc (.cells opZ 44) = y := ⟨_, rfl⟩
  have s1 : (w.alloc (.cells (docA c x TV) 39)).heap.size = w.heap.size + 1 := by simp only [World.alloc, Array.size_push]
  have s2 : ((w.alloc (.cells (docA c x TV) 39)).alloc (.cells (gotL true gn gm gL gid (gV) gt) 42)).heap.size = w.heap.size + 1 + 1 := by simp only [World.alloc, Array.size_push]
  have s3 : (((w.alloc (.cells (docA c x TV) 39)).alloc (.cells (gotL true gn gm gL gid (gV) gt) 42)).alloc (.cells docZ 39)).heap.size = w.heap.size + 1 + 1 + 1 := by simp only [World.alloc, Array.size_push]
  have D1 : Blk w1 w.heap.size 39 (docA c x TV) := by rw [← hw1]; exact (((Blk.new _ _ _).alloc _).alloc _).alloc _
  have G1 : Blk w1 (w.heap.size + 1) 42 (gotL true gn gm gL gid (gV) gt) := by rw [← hw1, ← s1]; exact ((Blk.new _ _ _).alloc _).alloc _
  have Z1 : Blk w1 (w.heap.size + 1 + 1) 39 docZ := by rw [← hw1, ← s2]; exact (Blk.new _ _ _).alloc _
  have O1 : Blk w1 (w.heap.size + 1 + 1 + 1) 44 opZ := by rw [← hw1, ← s3]; exact Blk.new _ _ _
  have b1 : Below w.heap.size w w1 := by rw [← hw1]; exact ((((Below.refl _ w).alloc (Nat.le_refl _) _).alloc (by rw [s1]; omega) _).alloc (by rw [s2]; omega) _).alloc (by rw [s3]; omega) _
  have c8 : w1.cell? ⟨w.heap.size, 8, none⟩ = some (.int .i64 6) := by
    have q : w1.cell? ⟨w.heap.size, 8, none⟩ = some (Value.int .i64 (x.pc : Int)) := D1.cell 8
    rw [hpc] at q; exact q
  clear s1 s2 s3
  have hm : x.marks = 0 := by rw [hx.marks, if_pos (by omega)]
  have c9 : w1.cell? ⟨w.heap.size, 9, none⟩ = some (.int .i64 0) := by
    show _ = some (Value.int .i64 ((0 : Nat) : Int))
    rw [← hm]; exact D1.cell 9
  have f9 := D1.frozen
  have he : ({ x with marks := x.marks + 1 } : AS) = { x with marks := x.marks + 1, err := 0 } := by rw [← hx.err (by omega)]
  have g0 : w1.cell? ⟨w.heap.size + 1, 0, none⟩ = some (.bool true) := G1.cell 0
  have g1 : w1.cell? ⟨w.heap.size + 1, 1, none⟩ = some (.int .i64 gn) := G1.cell 1
  have D1s0 : Blk (w1.setCell ⟨w.heap.size, 9, none⟩ (.int .i64 1)) w.heap.size 39 (docA c { x with marks := x.marks + 1, err := 0 } TV) := by
    have := D1.set_ 9 (.int .i64 1)
    rw [docA_mark1 c x TV hm, he] at this; exact this
  have Z2 : Blk (w1.setCell ⟨w.heap.size, 9, none⟩ (.int .i64 1)) (w.heap.size + 1 + 1) 39 docZ := Z1.tch (Tch.setCell (S := fun k => k = w.heap.size) (Tch.refl _ w1) (g := w.heap.size) rfl 9 _) (by omega)
  have O2 : Blk (w1.setCell ⟨w.heap.size, 9, none⟩ (.int .i64 1)) (w.heap.size + 1 + 1 + 1) 44 opZ := O1.tch (Tch.setCell (S := fun k => k = w.heap.size) (Tch.refl _ w1) (g := w.heap.size) rfl 9 _) (by omega)
  have b2 : Below w.heap.size w (w1.setCell ⟨w.heap.size, 9, none⟩ (.int .i64 1)) := b1.trans ((Tch.setCell (S := fun k => k = w.heap.size) (Tch.refl _ w1) (g := w.heap.size) rfl 9 _).below b1.size (fun k q => by omega))
  have G2 : Blk (w1.setCell ⟨w.heap.size, 9, none⟩ (.int .i64 1)) (w.heap.size + 1) 42 (gotL true gn gm gL gid (gV) gt) := G1.tch (Tch.setCell (S := fun k => k = w.heap.size) (Tch.refl _ w1) (g := w.heap.size) rfl 9 _) (show w.heap.size + 1 ≠ w.heap.size by omega)
  have D2 := D1s0
  obtain ⟨w2, hw2⟩ : ∃ y, (w1.setCell ⟨w.heap.size, 9, none⟩ (.int .i64 1)) = y := ⟨_, rfl⟩
  rw [hw2] at D2 Z2 O2 b2 G2
  have k0 : w2.cell? ⟨w.heap.size + 1, 0, none⟩ = some (.bool true) := G2.cell 0
  have k1 : w2.cell? ⟨w.heap.size + 1, 1, none⟩ = some (.int .i64 gn) := G2.cell 1
  clear G2
  have hT' : (TV).oneCell' = true := hT
  have L2 := doc_load D2
  have HC := Lib.hid (rf_ask c { x with marks := x.marks + 1, err := 0 } TV 7 27 gn 0 0 w2 hV hT')
  have HZ := Lib.hid Z2
  have HO := Lib.hid O2
  have HB := Lib.hid b2
  clear D2 Z2 O2 b2
  clear D1s0 D1 Z1 O1 b1 G1 hx hpc
  clear hm
  unfold docZ opZ at hw1
  go_enter Try.func14, Try.ntmps14
  go_upto_region 1 with fail
  (try rw [hw1])
  clear hw1
  go_wp2_with (refine wpList_loadE L2 _ rfl rfl rfl ?_)
  refine HC.out.mono ?_
  rintro e w' ⟨rfl, b'⟩
  obtain ⟨w3', w4', S2, S3, HD4, HO4, HB4, _⟩ := nx_tail c (({ x with marks := x.marks + 1, err := 0 } : AS).ask 7 27 gn 0 0) TV hV hT' HZ.out HO.out HB.out b'
  clear HC HZ HO HB b' L2 hV hT hT'
  go_wp2_with (first | refine wpList_storeE S2 _ _ rfl rfl rfl rfl ?_ | refine wpList_storeE S3 _ _ rfl rfl rfl rfl ?_)
  refine bodyPost_ret (v := .tuple #[.agg (docA c (({ x with marks := x.marks + 1, err := 0 } : AS).ask 7 27 gn 0 0) TV), .agg (opX (({ x with marks := x.marks + 1, err := 0 } : AS).ask 7 27 gn 0 0)), .bool true]) ?_ rfl ⟨rfl, HB4.out⟩
  exact results_rows2 (P := Try.prog) Try.results14 _ rfl rfl HD4.out HO4.out Try.underlying39 rfl docT Try.underlying44 rfl opT
set_option maxRecDepth 100000 in
set_option maxHeartbeats 4000000 in
theorem nx_6f (c : Tk) (x : AS) (TV : Value) (ok : Bool) (gn gm : Int) (gL : Value) (gid : Int) (gV : Value) (gt : Int) (w : World) (hx : x.Ok) (hV : c.V.oneCell' = true) (hT : TV.oneCell' = true) (hpc : x.pc = 6) (hok : ok = false) :
    Calls Try.prog 14 #[.agg (docA c x TV), .agg (gotL ok gn gm gL gid gV gt)] w (RetD c (({ x with marks := x.marks + 1, err := 3 } : AS).ask 8 6 0 0 0) TV true w) := by
  subst hok
  obtain ⟨w1, hw1⟩ : ∃ y, (((w.alloc (.cells (docA c x TV) 39)).alloc (.cells (gotL false gn gm gL gid (gV) gt) 42)).alloc (.cells docZ 39)).alloc (.cells opZ 44) = y := ⟨_, rfl⟩
  have s1 : (w.alloc (.cells (docA c x TV) 39)).heap.size = w.heap.size + 1 := by simp only [World.alloc, Array.size_push]
  have s2 : ((w.alloc (.cells (docA c x TV) 39)).alloc (.cells (gotL false gn gm gL gid (gV) gt) 42)).heap.size = w.heap.size + 1 + 1 := by simp only [World.alloc, Array.size_push]
  have s3 : (((w.alloc (.cells (docA c x TV) 39)).alloc (.cells (gotL false gn gm gL gid (gV) gt) 42)).alloc (.cells docZ 39)).heap.size = w.heap.size + 1 + 1 + 1 := by simp only [World.alloc, Array.size_push]
  have D1 : Blk w1 w.heap.size 39 (docA c x TV) := by rw [← hw1]; exact (((Blk.new _ _ _).alloc _).alloc _).alloc _
  have G1 : Blk w1 (w.heap.size + 1) 42 (gotL false gn gm gL gid (gV) gt) := by rw [← hw1, ← s1]; exact ((Blk.new _ _ _).alloc _).alloc _
  have Z1 : Blk w1 (w.heap.size + 1 + 1) 39 docZ := by rw [← hw1, ← s2]; exact (Blk.new _ _ _).alloc _
  have O1 : Blk w1 (w.heap.size + 1 + 1 + 1) 44 opZ := by rw [← hw1, ← s3]; exact Blk.new _ _ _
  have b1 : Below w.heap.size w w1 := by rw [← hw1]; exact ((((Below.refl _ w).alloc (Nat.le_refl _) _).alloc (by rw [s1]; omega) _).alloc (by rw [s2]; omega) _).alloc (by rw [s3]; omega) _
  have c8 : w1.cell? ⟨w.heap.size, 8, none⟩ = some (.int .i64 6) := by
    have q : w1.cell? ⟨w.heap.size, 8, none⟩ = some (Value.int .i64 (x.pc : Int)) := D1.cell 8
    rw [hpc] at q; exact q
  clear s1 s2 s3
  have hm : x.marks = 0 := by rw [hx.marks, if_pos (by omega)]
  have c9 : w1.cell? ⟨w.heap.size, 9, none⟩ = some (.int .i64 0) := by
    show _ = some (Value.int .i64 ((0 : Nat) : Int))
    rw [← hm]; exact D1.cell 9
  have f9 := D1.frozen
  have g0 : w1.cell? ⟨w.heap.size + 1, 0, none⟩ = some (.bool false) := G1.cell 0
  have c18 : w1.cell? ⟨w.heap.size, 18, none⟩ = some (.int .i64 x.err) := D1.cell 18
  have D1s0 : Blk (w1.setCell ⟨w.heap.size, 9, none⟩ (.int .i64 1)) w.heap.size 39 (docA c { x with marks := x.marks + 1 } TV) := by
    have := D1.set_ 9 (.int .i64 1)
    rw [docA_mark1 c x TV hm] at this; exact this
  have D1s1 : Blk ((w1.setCell ⟨w.heap.size, 9, none⟩ (.int .i64 1)).setCell ⟨w.heap.size, 18, none⟩ (.int .i64 3)) w.heap.size 39 (docA c { x with marks := x.marks + 1, err := 3 } TV) := by
    have := D1s0.set_ 18 (.int .i64 3)
    rw [docA_err] at this; exact this
  have Z2 : Blk ((w1.setCell ⟨w.heap.size, 9, none⟩ (.int .i64 1)).setCell ⟨w.heap.size, 18, none⟩ (.int .i64 3)) (w.heap.size + 1 + 1) 39 docZ := Z1.tch (Tch.setCell (S := fun k => k = w.heap.size) (Tch.setCell (S := fun k => k = w.heap.size) (Tch.refl _ w1) (g := w.heap.size) rfl 9 _) (g := w.heap.size) rfl 18 _) (by omega)
  have O2 : Blk ((w1.setCell ⟨w.heap.size, 9, none⟩ (.int .i64 1)).setCell ⟨w.heap.size, 18, none⟩ (.int .i64 3)) (w.heap.size + 1 + 1 + 1) 44 opZ := O1.tch (Tch.setCell (S := fun k => k = w.heap.size) (Tch.setCell (S := fun k => k = w.heap.size) (Tch.refl _ w1) (g := w.heap.size) rfl 9 _) (g := w.heap.size) rfl 18 _) (by omega)
  have b2 : Below w.heap.size w ((w1.setCell ⟨w.heap.size, 9, none⟩ (.int .i64 1)).setCell ⟨w.heap.size, 18, none⟩ (.int .i64 3)) := b1.trans ((Tch.setCell (S := fun k => k = w.heap.size) (Tch.setCell (S := fun k => k = w.heap.size) (Tch.refl _ w1) (g := w.heap.size) rfl 9 _) (g := w.heap.size) rfl 18 _).below b1.size (fun k q => by omega))
  have G2 : Blk ((w1.setCell ⟨w.heap.size, 9, none⟩ (.int .i64 1)).setCell ⟨w.heap.size, 18, none⟩ (.int .i64 3)) (w.heap.size + 1) 42 (gotL false gn gm gL gid (gV) gt) := G1.tch (Tch.setCell (S := fun k => k = w.heap.size) (Tch.setCell (S := fun k => k = w.heap.size) (Tch.refl _ w1) (g := w.heap.size) rfl 9 _) (g := w.heap.size) rfl 18 _) (show w.heap.size + 1 ≠ w.heap.size by omega)
  have D2 := D1s1
  obtain ⟨w2, hw2⟩ : ∃ y, ((w1.setCell ⟨w.heap.size, 9, none⟩ (.int .i64 1)).setCell ⟨w.heap.size, 18, none⟩ (.int .i64 3)) = y := ⟨_, rfl⟩
  rw [hw2] at D2 Z2 O2 b2 G2
  have k0 : w2.cell? ⟨w.heap.size + 1, 0, none⟩ = some (.bool false) := G2.cell 0
  have k1 : w2.cell? ⟨w.heap.size + 1, 1, none⟩ = some (.int .i64 gn) := G2.cell 1
  clear G2
  have hT' : (TV).oneCell' = true := hT
  have L2 := doc_load D2
  have HC := Lib.hid (rf_ask c { x with marks := x.marks + 1, err := 3 } TV 8 6 0 0 0 w2 hV hT')
  have HZ := Lib.hid Z2
  have HO := Lib.hid O2
  have HB := Lib.hid b2
  clear D2 Z2 O2 b2
  clear D1s0 D1s1 D1 Z1 O1 b1 G1 hx hpc
  clear hm
  unfold docZ opZ at hw1
  go_enter Try.func14, Try.ntmps14
  go_upto_region 1 with fail
  (try rw [hw1])
  clear hw1
  go_wp2_with (refine wpList_loadE L2 _ rfl rfl rfl ?_)
  refine HC.out.mono ?_
  rintro e w' ⟨rfl, b'⟩
  obtain ⟨w3', w4', S2, S3, HD4, HO4, HB4, _⟩ := nx_tail c (({ x with marks := x.marks + 1, err := 3 } : AS).ask 8 6 0 0 0) TV hV hT' HZ.out HO.out HB.out b'
  clear HC HZ HO HB b' L2 hV hT hT'
  go_wp2_with (first | refine wpList_storeE S2 _ _ rfl rfl rfl rfl ?_ | refine wpList_storeE S3 _ _ rfl rfl rfl rfl ?_)
  refine bodyPost_ret (v := .tuple #[.agg (docA c (({ x with marks := x.marks + 1, err := 3 } : AS).ask 8 6 0 0 0) TV), .agg (opX (({ x with marks := x.marks + 1, err := 3 } : AS).ask 8 6 0 0 0)), .bool true]) ?_ rfl ⟨rfl, HB4.out⟩
  exact results_rows2 (P := Try.prog) Try.results14 _ rfl rfl HD4.out HO4.out Try.underlying39 rfl docT Try.underlying44 rfl opT
set_option maxRecDepth 100000 in
set_option maxHeartbeats 4000000 in
theorem nx_7 (c : Tk) (x : AS) (TV : Value) (ok : Bool) (gn gm : Int) (gL : Value) (gid : Int) (gV : Value) (gt : Int) (w : World) (hV : c.V.oneCell' = true) (hpc : x.pc = 7) (gvec : List Int) (hg : ∃ A n c, gV = .slice A n c) :
    Calls Try.prog 14 #[.agg (docA c x TV), .agg (gotL ok gn gm gL gid gV gt)] w (RetD c (({ x with tid := gid, vec := gvec, ttags := gt } : AS).ask 8 6 0 0 0) gV true w) := by
  obtain ⟨gA, gN, gC, rfl⟩ := hg
  obtain ⟨w1, hw1⟩ : ∃ y, (((w.alloc (.cells (docA c x TV) 39)).alloc (.cells (gotL ok gn gm gL gid (.slice gA gN gC) gt) 42)).alloc (.cells docZ 39)).alloc (.cells opZ 44) = y := ⟨_, rfl⟩
  have s1 : (w.alloc (.cells (docA c x TV) 39)).heap.size = w.heap.size + 1 := by simp only [World.alloc, Array.size_push]
  have s2 : ((w.alloc (.cells (docA c x TV) 39)).alloc (.cells (gotL ok gn gm gL gid (.slice gA gN gC) gt) 42)).heap.size = w.heap.size + 1 + 1 := by simp only [World.alloc, Array.size_push]
  have s3 : (((w.alloc (.cells (docA c x TV) 39)).alloc (.cells (gotL ok gn gm gL gid (.slice gA gN gC) gt) 42)).alloc (.cells docZ 39)).heap.size = w.heap.size + 1 + 1 + 1 := by simp only [World.alloc, Array.size_push]
  have D1 : Blk w1 w.heap.size 39 (docA c x TV) := by rw [← hw1]; exact (((Blk.new _ _ _).alloc _).alloc _).alloc _
  have G1 : Blk w1 (w.heap.size + 1) 42 (gotL ok gn gm gL gid (.slice gA gN gC) gt) := by rw [← hw1, ← s1]; exact ((Blk.new _ _ _).alloc _).alloc _
  have Z1 : Blk w1 (w.heap.size + 1 + 1) 39 docZ := by rw [← hw1, ← s2]; exact (Blk.new _ _ _).alloc _
  have O1 : Blk w1 (w.heap.size + 1 + 1 + 1) 44 opZ := by rw [← hw1, ← s3]; exact Blk.new _ _ _
  have b1 : Below w.heap.size w w1 := by rw [← hw1]; exact ((((Below.refl _ w).alloc (Nat.le_refl _) _).alloc (by rw [s1]; omega) _).alloc (by rw [s2]; omega) _).alloc (by rw [s3]; omega) _
  have c8 : w1.cell? ⟨w.heap.size, 8, none⟩ = some (.int .i64 7) := by
    have q : w1.cell? ⟨w.heap.size, 8, none⟩ = some (Value.int .i64 (x.pc : Int)) := D1.cell 8
    rw [hpc] at q; exact q
  clear s1 s2 s3
  have f9 := D1.frozen
  have g4 : w1.cell? ⟨w.heap.size + 1, 4, none⟩ = some (.int .u64 gid) := G1.cell 4
  have g5 : w1.cell? ⟨w.heap.size + 1, 5, none⟩ = some (.slice gA gN gC) := G1.cell 5
  have g6 : w1.cell? ⟨w.heap.size + 1, 6, none⟩ = some (.int .u64 gt) := G1.cell 6
  have c19 : w1.cell? ⟨w.heap.size, 19, none⟩ = some (.int .u64 x.tid) := D1.cell 19
  have c20 : w1.cell? ⟨w.heap.size, 20, none⟩ = some TV := D1.cell 20
  have c21 : w1.cell? ⟨w.heap.size, 21, none⟩ = some (.int .u64 x.ttags) := D1.cell 21
  have D1s0 : Blk (((w1.setCell ⟨w.heap.size, 19, none⟩ (.int .u64 gid)).setCell ⟨w.heap.size, 20, none⟩ (.slice gA gN gC)).setCell ⟨w.heap.size, 21, none⟩ (.int .u64 gt)) w.heap.size 39 (docA c { x with tid := gid, vec := gvec, ttags := gt } (.slice gA gN gC)) := by
    have := ((D1.set_ 19 (.int .u64 gid)).set_ 20 (.slice gA gN gC)).set_ 21 (.int .u64 gt)
    rw [docA_item c x TV (.slice gA gN gC) gid gt gvec] at this; exact this
  have Z2 : Blk (((w1.setCell ⟨w.heap.size, 19, none⟩ (.int .u64 gid)).setCell ⟨w.heap.size, 20, none⟩ (.slice gA gN gC)).setCell ⟨w.heap.size, 21, none⟩ (.int .u64 gt)) (w.heap.size + 1 + 1) 39 docZ := Z1.tch (Tch.setCell (S := fun k => k = w.heap.size) (Tch.setCell (S := fun k => k = w.heap.size) (Tch.setCell (S := fun k => k = w.heap.size) (Tch.refl _ w1) (g := w.heap.size) rfl 19 _) (g := w.heap.size) rfl 20 _) (g := w.heap.size) rfl 21 _) (by omega)
  have O2 : Blk (((w1.setCell ⟨w.heap.size, 19, none⟩ (.int .u64 gid)).setCell ⟨w.heap.size, 20, none⟩ (.slice gA gN gC)).setCell ⟨w.heap.size, 21, none⟩ (.int .u64 gt)) (w.heap.size + 1 + 1 + 1) 44 opZ := O1.tch (Tch.setCell (S := fun k => k = w.heap.size) (Tch.setCell (S := fun k => k = w.heap.size) (Tch.setCell (S := fun k => k = w.heap.size) (Tch.refl _ w1) (g := w.heap.size) rfl 19 _) (g := w.heap.size) rfl 20 _) (g := w.heap.size) rfl 21 _) (by omega)
  have b2 : Below w.heap.size w (((w1.setCell ⟨w.heap.size, 19, none⟩ (.int .u64 gid)).setCell ⟨w.heap.size, 20, none⟩ (.slice gA gN gC)).setCell ⟨w.heap.size, 21, none⟩ (.int .u64 gt)) := b1.trans ((Tch.setCell (S := fun k => k = w.heap.size) (Tch.setCell (S := fun k => k = w.heap.size) (Tch.setCell (S := fun k => k = w.heap.size) (Tch.refl _ w1) (g := w.heap.size) rfl 19 _) (g := w.heap.size) rfl 20 _) (g := w.heap.size) rfl 21 _).below b1.size (fun k q => by omega))
  have G2 : Blk (((w1.setCell ⟨w.heap.size, 19, none⟩ (.int .u64 gid)).setCell ⟨w.heap.size, 20, none⟩ (.slice gA gN gC)).setCell ⟨w.heap.size, 21, none⟩ (.int .u64 gt)) (w.heap.size + 1) 42 (gotL ok gn gm gL gid (.slice gA gN gC) gt) := G1.tch (Tch.setCell (S := fun k => k = w.heap.size) (Tch.setCell (S := fun k => k = w.heap.size) (Tch.setCell (S := fun k => k = w.heap.size) (Tch.refl _ w1) (g := w.heap.size) rfl 19 _) (g := w.heap.size) rfl 20 _) (g := w.heap.size) rfl 21 _) (show w.heap.size + 1 ≠ w.heap.size by omega)
  have D2 := D1s0
  obtain ⟨w2, hw2⟩ : ∃ y, (((w1.setCell ⟨w.heap.size, 19, none⟩ (.int .u64 gid)).setCell ⟨w.heap.size, 20, none⟩ (.slice gA gN gC)).setCell ⟨w.heap.size, 21, none⟩ (.int .u64 gt)) = y := ⟨_, rfl⟩
  rw [hw2] at D2 Z2 O2 b2 G2
  have k0 : w2.cell? ⟨w.heap.size + 1, 0, none⟩ = some (.bool ok) := G2.cell 0
  have k1 : w2.cell? ⟨w.heap.size + 1, 1, none⟩ = some (.int .i64 gn) := G2.cell 1
  clear G2
  have hT' : (Value.slice gA gN gC).oneCell' = true := rfl
  have L2 := doc_load D2
  have HC := Lib.hid (rf_ask c { x with tid := gid, vec := gvec, ttags := gt } (.slice gA gN gC) 8 6 0 0 0 w2 hV hT')
  have HZ := Lib.hid Z2
  have HO := Lib.hid O2
  have HB := Lib.hid b2
  clear D2 Z2 O2 b2
  clear D1s0 D1 Z1 O1 b1 G1 hpc
  unfold docZ opZ at hw1
  go_enter Try.func14, Try.ntmps14
  go_upto_region 1 with fail
  (try rw [hw1])
  clear hw1
  go_wp2_with (refine wpList_loadE L2 _ rfl rfl rfl ?_)
  refine HC.out.mono ?_
  rintro e w' ⟨rfl, b'⟩
  obtain ⟨w3', w4', S2, S3, HD4, HO4, HB4, _⟩ := nx_tail c (({ x with tid := gid, vec := gvec, ttags := gt } : AS).ask 8 6 0 0 0) (.slice gA gN gC) hV hT' HZ.out HO.out HB.out b'
  clear HC HZ HO HB b' L2 hV hT'
  go_wp2_with (first | refine wpList_storeE S2 _ _ rfl rfl rfl rfl ?_ | refine wpList_storeE S3 _ _ rfl rfl rfl rfl ?_)
  refine bodyPost_ret (v := .tuple #[.agg (docA c (({ x with tid := gid, vec := gvec, ttags := gt } : AS).ask 8 6 0 0 0) (.slice gA gN gC)), .agg (opX (({ x with tid := gid, vec := gvec, ttags := gt } : AS).ask 8 6 0 0 0)), .bool true]) ?_ rfl ⟨rfl, HB4.out⟩
  exact results_rows2 (P := Try.prog) Try.results14 _ rfl rfl HD4.out HO4.out Try.underlying39 rfl docT Try.underlying44 rfl opT
end Go.Proofs.Ytkhnnjeinpojkaa
