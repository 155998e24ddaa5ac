/- Getter: the document's tasks: how they end, and how they ask. -/
import Derived.Test.YtkhnnjeinpojkaaGtP
import Derived.Test.YtkhnnjeinpojkaaRow
import Derived.Deep.RegionHeld
namespace Go.Proofs.Ytkhnnjeinpojkaa
open Go.RowKit
/-- The document's task: its cells. -/
def docA (c : Tk) (x : AS) (TV : Value) : Array Value := #[.int .i64 c.k, .int .u64 c.id, c.V, .int .u64 c.tags, .int .i64 c.kk, .int .i64 c.ef, .int .u64 c.dr, .int .i64 c.dim, .int .i64 x.pc, .int .i64 x.marks,
  .int .i64 0, .int .i64 c.k, .int .u64 c.id, c.V, .int .u64 c.tags, .int .i64 c.kk, .int .i64 c.ef, .int .u64 c.dr, .int .i64 x.err, .int .u64 x.tid, TV, .int .u64 x.ttags, .slice none 0 0, .int .i64 x.len, .int .i64 0, .slice none 0 0, .int .i64 0]
def docZ : Array Value := #[.int .i64 0, .int .u64 0, .slice none 0 0, .int .u64 0, .int .i64 0, .int .i64 0, .int .u64 0, .int .i64 0, .int .i64 0, .int .i64 0, .int .i64 0, .int .i64 0, .int .u64 0, .slice none 0 0, .int .u64 0, .int .i64 0, .int .i64 0, .int .u64 0, .int .i64 0, .int .u64 0, .slice none 0 0, .int .u64 0, .slice none 0 0, .int .i64 0, .int .i64 0, .slice none 0 0, .int .i64 0]
def opZ : Array Value := #[.int .i64 0, .int .i64 0, .int .i64 0, .int .i64 0, .int .i64 0, .int .u64 0, .slice none 0 0, .int .u64 0, .slice none 0 0, .int .u64 0]
def opX (x : AS) : Array Value := opA x.k x.a x.n x.id
def RetD (c : Tk) (x : AS) (TV : Value) (b : Bool) (w : World) (e : Ending) (w' : World) : Prop := e = .returned (.tuple #[.agg (docA c x TV), .agg (opX x), .bool b]) ∧ Below w.heap.size w w'
theorem docA_one (c : Tk) (x : AS) (TV : Value) (hV : c.V.oneCell' = true) (hT : TV.oneCell' = true) : (docA c x TV).all (·.oneCell') = true := by
  simp [docA, Value.oneCell']
  first | exact ⟨hV, hV, hT⟩ | exact ⟨hV, hT⟩
theorem opA_one (k a n id : Int) : (opA k a n id).all (·.oneCell') = true := by simp [opA, Value.oneCell']
theorem docA_pc (c : Tk) (x : AS) (TV : Value) (pc : Nat) (k a n id : Int) : (docA c x TV).setIfInBounds 8 (.int .i64 pc) = docA c (x.ask pc k a n id) TV := by
  apply Array.ext'
  simp only [Array.toList_setIfInBounds]
  rfl
theorem docT : (Try.prog.info? 39).map (·.size) = some 27 := by kernel_rfl
theorem opT : (Try.prog.info? 44).map (·.size) = some 10 := by kernel_rfl
theorem doc_load {w : World} {g t : Nat} {c : Tk} {x : AS} {TV : Value} (h : Blk w g t (docA c x TV)) : (Instr.loadAt 39 (.pointer (some ⟨g, 0, none⟩))).run Try.prog w = .ok (.agg (docA c x TV)) w := row_load h Try.underlying39 rfl docT
theorem op_load {w : World} {g t : Nat} {k a n id : Int} (h : Blk w g t (opA k a n id)) : (Instr.loadAt 44 (.pointer (some ⟨g, 0, none⟩))).run Try.prog w = .ok (.agg (opA k a n id)) w := row_load h Try.underlying44 rfl opT
theorem doc_store {w : World} {g t : Nat} {cs : Array Value} (h : Blk w g t cs) (hs : cs.size = 27) (c : Tk) (x : AS) (TV : Value) (hV : c.V.oneCell' = true) (hT : TV.oneCell' = true) :
    (Instr.storeAt 39 (.pointer (some ⟨g, 0, none⟩)) (.agg (docA c x TV))).run Try.prog w = .ok () (w.setCells g 0 (docA c x TV).toList) := row_store h (docA c x TV) hs.symm docT (docA_one c x TV hV hT)
theorem op_store {w : World} {g t : Nat} {cs : Array Value} (h : Blk w g t cs) (hs : cs.size = 10) (k a n id : Int) :
    (Instr.storeAt 44 (.pointer (some ⟨g, 0, none⟩)) (.agg (opA k a n id))).run Try.prog w = .ok () (w.setCells g 0 (opA k a n id).toList) := row_store h (opA k a n id) hs.symm opT (opA_one k a n id)
theorem Blk.putA {g t : Nat} {w : World} {cs : Array Value} (h : Blk w g t cs) (vs : Array Value) (hl : vs.size = cs.size) : Blk (w.setCells g 0 vs.toList) g t vs := by
  have := Blk.put h vs.toList (by simpa using hl)
  simpa using this
/-- A store into a block of the call's own. -/
theorem below_put {B g : Nat} {a w : World} (h : Below B a w) (hB : B ≤ a.heap.size) (hg : B ≤ g) (vs : List Value) (o : Nat) : Below B a (w.setCells g o vs) :=
  h.trans ((Tch.setCells (S := fun k => k = g) (g := g) rfl vs o w (Tch.refl _ w)).below (Nat.le_trans hB (by have := h.size; omega)) (fun k q => by omega))
theorem Blk.apart {g t g' : Nat} {w : World} {cs : Array Value} (h : Blk w g t cs) (hn : g ≠ g') (vs : List Value) (o : Nat) : Blk (w.setCells g' o vs) g t cs :=
  h.tch (Tch.setCells (S := fun k => k = g') (g := g') rfl vs o w (Tch.refl _ w)) hn
set_option maxRecDepth 100000 in
set_option maxHeartbeats 4000000 in
theorem rf_over (c : Tk) (x : AS) (TV : Value) (w : World) (hV : c.V.oneCell' = true) (hT : TV.oneCell' = true) :
    Calls Try.prog 63 #[.agg (docA c x TV)] w (RetD c (x.ask 9 0 0 0 0) TV false w) := by
  obtain ⟨w1, hw1⟩ : ∃ y, ((w.alloc (.cells (docA c x TV) 39)).alloc (.cells docZ 39)).alloc (.cells opZ 44) = y := ⟨_, rfl⟩
  have s1 : (w.alloc (.cells (docA c x TV) 39)).heap.size = w.heap.size + 1 := by simp only [World.alloc, Array.size_push]
  have s2 : ((w.alloc (.cells (docA c x TV) 39)).alloc (.cells docZ 39)).heap.size = w.heap.size + 1 + 1 := by simp only [World.alloc, Array.size_push]
  have D1 : Blk w1 w.heap.size 39 (docA c x TV) := by rw [← hw1]; exact ((Blk.new _ _ _).alloc _).alloc _
  have Z1 : Blk w1 (w.heap.size + 1) 39 docZ := by rw [← hw1, ← s1]; exact (Blk.new _ _ _).alloc _
  have O1 : Blk w1 (w.heap.size + 1 + 1) 44 (opA 0 0 0 0) := by rw [← hw1, ← s2]; exact Blk.new _ _ _
  have b1 : Below w.heap.size w w1 := by rw [← hw1]; exact (((Below.refl _ w).alloc (Nat.le_refl _) _).alloc (by rw [s1]; omega) _).alloc (by rw [s2]; omega) _
  have c8 : w1.cell? ⟨w.heap.size, 8, none⟩ = some (.int .i64 x.pc) := D1.cell 8
  have f8 := D1.frozen 8
  have D2 : Blk (w1.setCell ⟨w.heap.size, 8, none⟩ (.int .i64 9)) w.heap.size 39 (docA c (x.ask 9 0 0 0 0) TV) := by
    have := D1.set_ 8 (.int .i64 ((9 : Nat) : Int))
    rw [docA_pc c x TV 9 0 0 0 0] at this; exact this
  have Z2 : Blk (w1.setCell ⟨w.heap.size, 8, none⟩ (.int .i64 9)) (w.heap.size + 1) 39 docZ := Z1.far (p := ⟨w.heap.size, 8, none⟩) (by show _ ≠ w.heap.size; omega) _
  have O2 : Blk (w1.setCell ⟨w.heap.size, 8, none⟩ (.int .i64 9)) (w.heap.size + 1 + 1) 44 (opA 0 0 0 0) := O1.far (p := ⟨w.heap.size, 8, none⟩) (by show _ ≠ w.heap.size; omega) _
  have b2 : Below w.heap.size w (w1.setCell ⟨w.heap.size, 8, none⟩ (.int .i64 9)) := below_put b1 (Nat.le_refl _) (Nat.le_refl _) [.int .i64 9] 8
  obtain ⟨w2, hw2⟩ : ∃ y, w1.setCell ⟨w.heap.size, 8, none⟩ (.int .i64 9) = y := ⟨_, rfl⟩
  rw [hw2] at D2 Z2 O2 b2
  have L2 := doc_load D2
  have S2 := doc_store Z2 rfl c (x.ask 9 0 0 0 0) TV hV hT
  have b3 := below_put b2 (Nat.le_refl _) (show w.heap.size ≤ w.heap.size + 1 by omega) (docA c (x.ask 9 0 0 0 0) TV).toList 0
  have Z3 := Z2.putA (docA c (x.ask 9 0 0 0 0) TV) rfl
  have O3 := O2.apart (show w.heap.size + 1 + 1 ≠ w.heap.size + 1 by omega) (docA c (x.ask 9 0 0 0 0) TV).toList 0
  obtain ⟨w3, hw3⟩ : ∃ y, World.setCells w2 (w.heap.size + 1) 0 (docA c (x.ask 9 0 0 0 0) TV).toList = y := ⟨_, rfl⟩
  rw [hw3] at S2 b3 Z3 O3
  have S3 := op_store O3 rfl 0 0 0 0
  have b4 := below_put b3 (Nat.le_refl _) (show w.heap.size ≤ w.heap.size + 1 + 1 by omega) (opA 0 0 0 0).toList 0
  have O4 := O3.putA (opA 0 0 0 0) rfl
  have Z4 := Z3.apart (show w.heap.size + 1 ≠ w.heap.size + 1 + 1 by omega) (opA 0 0 0 0).toList 0
  obtain ⟨w4, hw4⟩ : ∃ y, World.setCells w3 (w.heap.size + 1 + 1) 0 (opA 0 0 0 0).toList = y := ⟨_, rfl⟩
  rw [hw4] at S3 b4 O4 Z4
  have HB := Lib.hid b4
  have HO := Lib.hid O4
  have HZ := Lib.hid Z4
  clear b1 b2 b3 b4 D1 Z1 O1 D2 Z2 O2 Z3 O3 O4 Z4 hw3 hw4 s1 s2
  unfold docZ at hw1
  unfold opZ at hw1
  unfold opA at S3
  go_enter Try.func63, Try.ntmps63
  go_upto_region 1 with fail
  (try rw [hw1])
  clear hw1
  go_wp2_with (first | refine wpList_loadE L2 _ rfl rfl rfl ?_ | refine wpList_storeE S2 _ _ rfl rfl rfl rfl ?_ | refine wpList_storeE S3 _ _ rfl rfl rfl rfl ?_)
  refine bodyPost_ret (v := .tuple #[.agg (docA c (x.ask 9 0 0 0 0) TV), .agg (opX (x.ask 9 0 0 0 0)), .bool false]) ?_ rfl ⟨rfl, HB.out⟩
  exact results_rows2 (P := Try.prog) Try.results63 _ rfl rfl HZ.out HO.out Try.underlying39 rfl docT Try.underlying44 rfl opT
set_option maxRecDepth 100000 in
set_option maxHeartbeats 4000000 in
theorem rf_ask (c : Tk) (x : AS) (TV : Value) (pc : Nat) (k a n id : Int) (w : World) (hV : c.V.oneCell' = true) (hT : TV.oneCell' = true) :
    Calls Try.prog 62 #[.agg (docA c x TV), .int .i64 pc, .agg (opA k a n id)] w (RetD c (x.ask pc k a n id) TV true w) := by
  obtain ⟨w1, hw1⟩ : ∃ y, (((w.alloc (.cells (docA c x TV) 39)).alloc (.cells (opA k a n id) 44)).alloc (.cells docZ 39)).alloc (.cells opZ 44) = y := ⟨_, rfl⟩
  have s1 : (w.alloc (.cells (docA c x TV) 39)).heap.size = w.heap.size + 1 := by simp only [World.alloc, Array.size_push]
  have s2 : ((w.alloc (.cells (docA c x TV) 39)).alloc (.cells (opA k a n id) 44)).heap.size = w.heap.size + 1 + 1 := by simp only [World.alloc, Array.size_push]
  have s3 : (((w.alloc (.cells (docA c x TV) 39)).alloc (.cells (opA k a n id) 44)).alloc (.cells docZ 39)).heap.size = w.heap.size + 1 + 1 + 1 := by simp only [World.alloc, Array.size_push]
  have D1 : Blk w1 w.heap.size 39 (docA c x TV) := by rw [← hw1]; exact (((Blk.new _ _ _).alloc _).alloc _).alloc _
  have P1 : Blk w1 (w.heap.size + 1) 44 (opA k a n id) := by rw [← hw1, ← s1]; exact ((Blk.new _ _ _).alloc _).alloc _
  have Z1 : Blk w1 (w.heap.size + 1 + 1) 39 docZ := by rw [← hw1, ← s2]; exact (Blk.new _ _ _).alloc _
  have O1 : Blk w1 (w.heap.size + 1 + 1 + 1) 44 (opA 0 0 0 0) := by rw [← hw1, ← s3]; exact Blk.new _ _ _
  have b1 : Below w.heap.size w w1 := by rw [← hw1]; exact ((((Below.refl _ w).alloc (Nat.le_refl _) _).alloc (by rw [s1]; omega) _).alloc (by rw [s2]; omega) _).alloc (by rw [s3]; omega) _
  have c8 : w1.cell? ⟨w.heap.size, 8, none⟩ = some (.int .i64 x.pc) := D1.cell 8
  have f8 := D1.frozen 8
  have D2 : Blk (w1.setCell ⟨w.heap.size, 8, none⟩ (.int .i64 pc)) w.heap.size 39 (docA c (x.ask pc k a n id) TV) := by
    have := D1.set_ 8 (.int .i64 (pc : Int))
    rw [docA_pc c x TV pc k a n id] at this; exact this
  have P2 : Blk (w1.setCell ⟨w.heap.size, 8, none⟩ (.int .i64 pc)) (w.heap.size + 1) 44 (opA k a n id) := P1.far (p := ⟨w.heap.size, 8, none⟩) (by show _ ≠ w.heap.size; omega) _
  have Z2 : Blk (w1.setCell ⟨w.heap.size, 8, none⟩ (.int .i64 pc)) (w.heap.size + 1 + 1) 39 docZ := Z1.far (p := ⟨w.heap.size, 8, none⟩) (by show _ ≠ w.heap.size; omega) _
  have O2 : Blk (w1.setCell ⟨w.heap.size, 8, none⟩ (.int .i64 pc)) (w.heap.size + 1 + 1 + 1) 44 (opA 0 0 0 0) := O1.far (p := ⟨w.heap.size, 8, none⟩) (by show _ ≠ w.heap.size; omega) _
  have b2 : Below w.heap.size w (w1.setCell ⟨w.heap.size, 8, none⟩ (.int .i64 pc)) := below_put b1 (Nat.le_refl _) (Nat.le_refl _) [.int .i64 pc] 8
  obtain ⟨w2, hw2⟩ : ∃ y, w1.setCell ⟨w.heap.size, 8, none⟩ (.int .i64 pc) = y := ⟨_, rfl⟩
  rw [hw2] at D2 P2 Z2 O2 b2
  have HD := Lib.hid D2
  have HP := Lib.hid P2
  have HZ := Lib.hid Z2
  have HO := Lib.hid O2
  have HB := Lib.hid b2
  clear b1 b2 D1 Z1 O1 P1 D2 P2 Z2 O2 s1 s2 s3
  unfold docZ at hw1
  unfold opZ at hw1
  go_enter Try.func62, Try.ntmps62
  go_upto_region 1 with fail
  (try rw [hw1])
  clear hw1
  go_wp2_with fail
  have HT : Hid ((docA c (x.ask pc k a n id) TV).all (·.oneCell') = true) := docA_one c _ TV hV hT
  refine wp_region_held_drew (S := fun w' => w'.rangeAt w.heap.size 0 (docA c (x.ask pc k a n id) TV).toList ∧ w'.rangeAt (w.heap.size + 1) 0 (opA k a n id).toList) (by kernel_rfl) ⟨HD.out.range, HP.out.range⟩ (fun hHeld => ?_)
  refine wpAnyH_take (i := 0) rfl (by kernel_rfl) (by kernel_rfl) (by kernel_rfl) (fun _ _ _ h => h) (yieldsIf_load_mid (by rfl) 39 _ rfl _ _ rfl (docA c (x.ask pc k a n id) TV).toList _ (fun _ q => q.1) Try.underlying39 rfl docT) hHeld ?_
  (try simp only [List.getElem_toArray, List.getElem_cons_zero, Act.put, List.setIfInBounds_toArray, List.set_cons_zero, List.set_cons_succ])
  refine wpAnyH_take (i := 1) rfl (by kernel_rfl) (by kernel_rfl) (by kernel_rfl) (fun _ _ _ h => h) (yieldsIf_load_mid (by rfl) 44 _ rfl _ _ rfl (opA k a n id).toList _ (fun _ q => q.2) Try.underlying44 rfl opT) hHeld ?_
  (try simp only [List.getElem_toArray, List.getElem_cons_zero, List.getElem_cons_succ, Act.put, List.setIfInBounds_toArray, List.set_cons_zero, List.set_cons_succ])
  have Z2d : Blk w2.drew (w.heap.size + 1 + 1) 39 docZ := HZ.out
  have O2d : Blk w2.drew (w.heap.size + 1 + 1 + 1) 44 (opA 0 0 0 0) := HO.out
  have b2d : Below w.heap.size w w2.drew := below_drewN HB.out 1
  have R2 := doc_store Z2d rfl c (x.ask pc k a n id) TV hV hT
  have S3 : World.rangeAt (w2.drew.setCells (w.heap.size + 1 + 1) 0 (docA c (x.ask pc k a n id) TV).toList) w.heap.size 0 (docA c (x.ask pc k a n id) TV).toList ∧ World.rangeAt (w2.drew.setCells (w.heap.size + 1 + 1) 0 (docA c (x.ask pc k a n id) TV).toList) (w.heap.size + 1) 0 (opA k a n id).toList :=
    ⟨World.rangeAt_setCells_apart hHeld.1 _ _ _ (.inl (by omega)), World.rangeAt_setCells_apart hHeld.2 _ _ _ (.inl (by omega))⟩
  have b3 := below_put b2d (Nat.le_refl _) (show w.heap.size ≤ w.heap.size + 1 + 1 by omega) (docA c (x.ask pc k a n id) TV).toList 0
  have Z3 := Z2d.putA (docA c (x.ask pc k a n id) TV) rfl
  have O3 := O2d.apart (show w.heap.size + 1 + 1 + 1 ≠ w.heap.size + 1 + 1 by omega) (docA c (x.ask pc k a n id) TV).toList 0
  obtain ⟨w3, hw3⟩ : ∃ y, w2.drew.setCells (w.heap.size + 1 + 1) 0 (docA c (x.ask pc k a n id) TV).toList = y := ⟨_, rfl⟩
  rw [hw3] at R2 S3 b3 Z3 O3
  have R3 := op_store O3 rfl k a n id
  have S4 : World.rangeAt (w3.setCells (w.heap.size + 1 + 1 + 1) 0 (opA k a n id).toList) w.heap.size 0 (docA c (x.ask pc k a n id) TV).toList ∧ World.rangeAt (w3.setCells (w.heap.size + 1 + 1 + 1) 0 (opA k a n id).toList) (w.heap.size + 1) 0 (opA k a n id).toList :=
    ⟨World.rangeAt_setCells_apart S3.1 _ _ _ (.inl (by omega)), World.rangeAt_setCells_apart S3.2 _ _ _ (.inl (by omega))⟩
  have b4 := below_put b3 (Nat.le_refl _) (show w.heap.size ≤ w.heap.size + 1 + 1 + 1 by omega) (opA k a n id).toList 0
  have O4 := O3.putA (opA k a n id) rfl
  have Z4 := Z3.apart (show w.heap.size + 1 + 1 ≠ w.heap.size + 1 + 1 + 1 by omega) (opA k a n id).toList 0
  obtain ⟨w4, hw4⟩ : ∃ y, w3.setCells (w.heap.size + 1 + 1 + 1) 0 (opA k a n id).toList = y := ⟨_, rfl⟩
  rw [hw4] at R3 S4 b4 O4 Z4
  have HB4 := Lib.hid b4
  have HO4 := Lib.hid O4
  have HZ4 := Lib.hid Z4
  clear b4 O4 Z4 b3 Z3 O3 Z2d O2d b2d HD HP HZ HO HB HT hV hT hw3 hw4 hHeld
  refine wpAnyH_store 2 _ _ _ (by kernel_rfl) (by rfl) (by kernel_rfl) (by rfl) (by rfl) (by rfl) R2 S3 ?_
  (try simp only [List.getElem_toArray, List.getElem_cons_zero, List.getElem_cons_succ, Act.put])
  refine wpAnyH_store 3 _ _ _ (by kernel_rfl) (by rfl) (by kernel_rfl) (by rfl) (by rfl) (by rfl) R3 S4 ?_
  (try simp only [List.getElem_toArray, List.getElem_cons_zero, List.getElem_cons_succ, Act.put])
  refine wpAnyH_value 4 (.bool true) (by kernel_rfl) (by rfl) (by kernel_rfl) (by rfl) S4 ?_
  (try simp only [List.getElem_toArray, List.getElem_cons_zero, List.getElem_cons_succ, Act.put, List.setIfInBounds_toArray, List.set_cons_zero, List.set_cons_succ])
  refine wpAnyH_done (by kernel_rfl) ?_ _
  go_wp2_with fail
  refine bodyPost_ret (v := .tuple #[.agg (docA c (x.ask pc k a n id) TV), .agg (opX (x.ask pc k a n id)), .bool true]) ?_ rfl ⟨rfl, HB4.out⟩
  exact results_rows2 (P := Try.prog) Try.results62 _ rfl rfl HZ4.out HO4.out Try.underlying39 rfl docT Try.underlying44 rfl opT
end Go.Proofs.Ytkhnnjeinpojkaa
