/- Getter: Told, New, and what a nil task says. -/
import Derived.Test.YtkhnnjeinpojkaaGtN
import Derived.Test.YtkhnnjeinpojkaaRow
namespace Go.Proofs.Ytkhnnjeinpojkaa
open Go.RowKit
theorem told_load {w : World} {T : Nat} {c : Tk} {s : Ts} (h : TaskAt w T c s) : (Instr.loadAt 37 (.pointer (some ⟨T, 21, none⟩))).run Try.prog w = .ok (.agg (toldA c s)) w :=
  row_load_mid h 21 (toldA c s) (by kernel_rfl) (d := _) Try.underlying37 rfl (by kernel_rfl)
def toldZ : Array Value := #[.int .i64 0, .int .i64 0, .int .u64 0, .slice none 0 0, .int .u64 0, .int .i64 0, .int .i64 0, .int .u64 0, .int .i64 0, .int .u64 0, .slice none 0 0, .int .u64 0, .slice none 0 0, .int .i64 0, .int .i64 0, .slice none 0 0, .int .i64 0]
set_option maxRecDepth 100000 in
set_option maxHeartbeats 4000000 in
theorem gt_told (T : Nat) (c : Tk) (s : Ts) (w : World) (h : TaskAt w T c s) (hV : c.V.oneCell' = true) (hTV : s.TV.oneCell' = true) :
    Calls Try.prog 19 #[.pointer (some ⟨T, 0, none⟩)] w fun e w' => e = .returned (.agg (toldA c s)) ∧ Below w.heap.size w w' := by
  obtain ⟨w1, hw1⟩ : ∃ x, w.alloc (.cells toldZ 37) = x := ⟨_, rfl⟩
  have K1 : TaskAt w1 T c s := by rw [← hw1]; exact Blk.alloc h _
  have R1 : Blk w1 w.heap.size 37 toldZ := by rw [← hw1]; exact Blk.new _ _ _
  have b1 : Below w.heap.size w w1 := by rw [← hw1]; exact (Below.refl _ w).alloc (Nat.le_refl _) _
  have L1 : (Instr.loadAt 37 (.pointer (some ⟨T, 21, none⟩))).run Try.prog w1 = .ok (.agg (toldA c s)) w1 := told_load K1
  obtain ⟨w7, hw7⟩ : ∃ x, World.setCells w1 w.heap.size 0 (toldA c s).toList = x := ⟨_, rfl⟩
  have S1 : (Instr.storeAt 37 (.pointer (some ⟨w.heap.size, 0, none⟩)) (.agg (toldA c s))).run Try.prog w1 = .ok () w7 := by
    rw [← hw7]; exact row_store R1 (toldA c s) rfl (by kernel_rfl) (by simp [toldA, Value.oneCell']; exact ⟨hV, hTV⟩)
  have KM : Blk w7 w.heap.size 37 (toldA c s) := by rw [← hw7]; exact Blk.put R1 _ rfl
  have HB : Hid (Below w.heap.size w w7) := by
    show Below _ _ _
    rw [← hw7]
    exact b1.trans ((Tch.setCells (S := fun k => k = w.heap.size) (g := w.heap.size) rfl _ _ _ (Tch.refl _ _)).below b1.size (fun k q => by omega))
  have HKM := Lib.hid KM
  clear h K1 KM R1 b1 hV hTV hw7
  unfold toldZ at hw1
  go_enter Try.func19, Try.ntmps19
  go_upto_region 1 with fail
  (try rw [hw1])
  clear hw1
  go_wp2_with (first | refine wpList_loadE L1 _ rfl rfl rfl ?_ | refine wpList_storeE S1 _ _ rfl rfl rfl rfl ?_)
  refine bodyPost_ret (v := .agg (toldA c s)) ?_ rfl ⟨rfl, HB.out⟩
  exact results_cell_row (P := Try.prog) Try.results19 _ w7 w.heap.size _ _ _ _ rfl HKM.out Try.underlying37 rfl (by kernel_rfl)
/-- A task's place, to begin with. -/
def ts0 : Ts := ⟨0, 0, 0, 0, false, false, 0, 0, 0, .slice none 0 0, 0, 0⟩
set_option maxRecDepth 100000 in
set_option maxHeartbeats 4000000 in
theorem gt_new (k id tags kk ef dr dim : Int) (V : Value) (vec : List Int) (w : World) (hv : VV w V vec) :
    Calls Try.prog 12 #[.agg (callL k id V tags kk ef dr), .int .i64 dim] w fun e w' => (∃ T V', e = .returned (.pointer (some ⟨T, 0, none⟩)) ∧ w.heap.size ≤ T ∧ TaskAt w' T ⟨k, id, V', tags, kk, ef, dr, dim⟩ ts0 ∧ VV w' V' vec ∧ NotAt T V') ∧ Below w.heap.size w w' := by
  have b1 : Below w.heap.size w (w.alloc (.cells (callL k id V tags kk ef dr) 27)) := (Below.refl _ w).alloc (Nat.le_refl _) _
  have v1 := hv.below b1
  obtain ⟨w1, hw1⟩ : ∃ x, (w.alloc (.cells (callL k id V tags kk ef dr) 27)) = x := ⟨_, rfl⟩
  have K1 : Blk w1 w.heap.size 27 (callL k id V tags kk ef dr) := by rw [← hw1]; exact Blk.new _ _ _
  rw [hw1] at b1 v1
  have HC := Lib.hid (clone32 v1)
  have c2 : w1.cell? ⟨w.heap.size, 2, none⟩ = some V := K1.cell 2
  have HK1 := Lib.hid K1
  have Hb1 := Lib.hid b1
  obtain ⟨A, n, cp, rfl, _⟩ := (show VV w V vec from hv)
  clear hv b1 v1 K1
  unfold callL at hw1
  unfold callL
  go_enter Try.func12, Try.ntmps12
  go_upto_region 1 with fail
  (try rw [hw1])
  clear hw1
  go_wp2_with fail
  refine HC.out.mono ?_
  rintro e w2 ⟨⟨V', rfl, v2, fr⟩, b2⟩
  obtain ⟨A', n', c', hV', _⟩ := (show VV w2 V' vec from v2)
  subst hV'
  have K2 : Blk w2 w.heap.size 27 (callL k id (.slice A n cp) tags kk ef dr) := Blk.below HK1.out b2 (Blk.lt HK1.out)
  have hb : w.heap.size ≠ w2.heap.size := by have := Blk.lt K2; omega
  have e2 : w2.cell? ⟨w.heap.size, 2, none⟩ = some (.slice A n cp) := K2.cell 2
  have ef2 := K2.frozen
  have K3 : Blk (w2.setCell ⟨w.heap.size, 2, none⟩ (.slice A' n' c')) w.heap.size 27 (callL k id (.slice A' n' c') tags kk ef dr) := K2.set_ 2 _
  have t3 : Tch (fun k => k = w.heap.size) w2 (w2.setCell ⟨w.heap.size, 2, none⟩ (.slice A' n' c')) := Tch.setCell (S := fun k => k = w.heap.size) (Tch.refl _ w2) (g := w.heap.size) rfl 2 _
  have v3 : VV (w2.setCell ⟨w.heap.size, 2, none⟩ (.slice A' n' c')) (.slice A' n' c') vec := v2.tch t3 (fr.notAt (Blk.lt HK1.out)) (fun _ _ q => q)
  have s3 : (w2.setCell ⟨w.heap.size, 2, none⟩ (.slice A' n' c')).heap.size = w2.heap.size := by simp [World.setCell]
  have b3 : Below w.heap.size w (w2.setCell ⟨w.heap.size, 2, none⟩ (.slice A' n' c')) := (Hb1.out.trans (b2.mono Hb1.out.size)).trans (t3.below (by have := Hb1.out.size; have := b2.size; omega) (fun k q => by omega))
  obtain ⟨w3, hw3⟩ : ∃ x, w2.setCell ⟨w.heap.size, 2, none⟩ (.slice A' n' c') = x := ⟨_, rfl⟩
  rw [hw3] at K3 v3 s3 b3
  have d0 : w3.cell? ⟨w.heap.size, 0, none⟩ = some (.int .i64 k) := K3.cell 0
  have d1 : w3.cell? ⟨w.heap.size, 1, none⟩ = some (.int .u64 id) := K3.cell 1
  have d2 : w3.cell? ⟨w.heap.size, 2, none⟩ = some (.slice A' n' c') := K3.cell 2
  have d3 : w3.cell? ⟨w.heap.size, 3, none⟩ = some (.int .u64 tags) := K3.cell 3
  have d4 : w3.cell? ⟨w.heap.size, 4, none⟩ = some (.int .i64 kk) := K3.cell 4
  have d5 : w3.cell? ⟨w.heap.size, 5, none⟩ = some (.int .i64 ef) := K3.cell 5
  have d6 : w3.cell? ⟨w.heap.size, 6, none⟩ = some (.int .u64 dr) := K3.cell 6
  have KT : TaskAt (w3.alloc (.cells (taskA ⟨k, id, .slice A' n' c', tags, kk, ef, dr, dim⟩ ts0) 95)) w3.heap.size ⟨k, id, .slice A' n' c', tags, kk, ef, dr, dim⟩ ts0 := Blk.new _ _ _
  have b4 : Below w3.heap.size w3 (w3.alloc (.cells (taskA ⟨k, id, .slice A' n' c', tags, kk, ef, dr, dim⟩ ts0) 95)) := (Below.refl _ _).alloc (Nat.le_refl _) _
  have HKT := Lib.hid KT
  have HV4 := Lib.hid (v3.below b4)
  have HN4 := Lib.hid (v3.notAt (Nat.le_refl _))
  have HB4 := Lib.hid (b3.trans (b4.mono b3.size))
  have HS4 := Lib.hid b3.size
  clear KT b4 K3 t3 v3 b3 s3 v2 fr b2 HC HK1 Hb1 K2 c2
  unfold taskA ts0 at HKT HV4 HB4
  go_wp2_with fail
  go_ret
  exact ⟨⟨_, _, rfl, HS4.out, HKT.out, HV4.out, HN4.out⟩, HB4.out⟩
set_option maxRecDepth 100000 in
theorem marks_nil (w : World) : Calls Try.prog 17 #[.pointer none] w fun e w' => e = .returned (.int .i64 0) ∧ w = w' := by
  go_enter Try.func17, Try.ntmps17
  go_wp2_with fail
  go_ret
  exact ⟨rfl, rfl⟩
set_option maxRecDepth 100000 in
set_option maxHeartbeats 4000000 in
theorem next_nil (ok : Bool) (gn gm : Int) (gL : Value) (gid : Int) (gV : Value) (gt : Int) (w : World) : Calls Try.prog 15 #[.pointer none, .agg (gotL ok gn gm gL gid gV gt)] w fun e w' => e = .returned (.tuple #[.agg (opA 0 0 0 0), .bool false]) ∧ Below w.heap.size w w' := by
  have hb1 := (Below.refl _ w).alloc (Nat.le_refl _) (.cells (gotL ok gn gm gL gid gV gt) 42)
  have hs1 : (w.alloc (.cells (gotL ok gn gm gL gid gV gt) 42)).heap.size = w.heap.size + 1 := by simp only [World.alloc, Array.size_push]
  have HB : Hid (Below w.heap.size w ((w.alloc (.cells (gotL ok gn gm gL gid gV gt) 42)).alloc (.cells (opA 0 0 0 0) 44))) := hb1.alloc hb1.size _
  have KR := Lib.hid (op_new (w.alloc (.cells (gotL ok gn gm gL gid gV gt) 42)) 0 0 0 0)
  rw [hs1] at KR
  clear hb1 hs1
  unfold gotL opA at *
  go_enter Try.func15, Try.ntmps15
  go_wp2_with fail
  obtain ⟨⟨m0, m1, m2, m3, m4, m5, m6, m7, m8, m9⟩, _⟩ := op_cells KR.out
  refine bodyPost_ret (v := .tuple #[.agg (opA 0 0 0 0), .bool false]) ?_ rfl ⟨rfl, HB.out⟩
  simp [results, Try.results15, go_sem, opA, m0, m1, m2, m3, m4, m5, m6, m7, m8, m9]
end Go.Proofs.Ytkhnnjeinpojkaa
