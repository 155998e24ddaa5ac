/- A new clock. -/
import Derived.Test.YtoodifpkconfcaaEpL
namespace Go.Proofs.Ytoodifpkconfcaa
open Go.RowKit
theorem info_worker : (Try.prog.info? 88).map (fun i => (i.zero.map Value.cells, i.size, i.bytes)) = some (some #[.int .i64 0, .int .i64 0], 2, 16) := by kernel_rfl
theorem make_workers (kl kc : IntKind) (n : Nat) (hn : n ≤ 64) (w : World) :
    (Instr.makeSlice 80 (.int kl (n : Int)) (.int kc (n : Int))).run Try.prog w = .ok (.slice (some ⟨w.heap.size, 0, none⟩) n n) (w.alloc (.cells (madeCells #[.int .i64 0, .int .i64 0] (n * 2)) 88)) := by
  obtain ⟨i, hi, hzz⟩ := Option.map_eq_some_iff.1 info_worker
  simp only [Prod.mk.injEq] at hzz
  obtain ⟨hz, hs, hb⟩ := hzz
  obtain ⟨z, hz1, hz2⟩ := Option.map_eq_some_iff.1 hz
  have hr := run_make (P := Try.prog) w 80 88 i z Try.underlying80 hi hz1 kl kc n n (by omega) (Int.le_refl _) (by rw [hb]; omega) (by omega)
  simp only [Int.toNat_natCast, hs, hz2] at hr
  exact hr
theorem IB.made2 (w : World) (t n : Nat) (kd : IntKind) : IB (w.alloc (.cells (madeCells #[.int kd 0, .int kd 0] (n * 2)) t)) w.heap.size t kd (List.replicate (n * 2) 0) := by
  refine ⟨[], ?_⟩
  rw [heap_alloc_new]
  congr 2
  apply Array.ext
  · simp [madeCells]
  · intro k h1 h2
    simp only [madeCells, List.append_nil, List.map_replicate]
    have : k % 2 = 0 ∨ k % 2 = 1 := by omega
    rcases this with e | e <;> simp [e]
set_option maxRecDepth 100000 in
theorem ep_new (n : Nat) (h1 : 1 ≤ n) (h2 : n ≤ 64) (w : World) :
    Calls Try.prog 31 #[.int .i64 n] w fun e w' => ∃ g gw, e = .returned (.tuple #[.pointer (some ⟨g, 0, none⟩), .int .i64 0]) ∧ EpAt w' w.heap.size ⟨g, gw, none, 0⟩ ⟨0, 0, List.replicate (n * 2) 0, []⟩ ∧ Below w.heap.size w w' := by
  have hmk := fun (kl kc : IntKind) => make_workers kl kc n h2 w
  have t1 : decide ((n : Int) < 1) = false := by simp; omega
  have t2 : decide ((n : Int) > 64) = false := by simp; omega
  go_enter Try.func31, Try.ntmps31
  go_wp2
  go_ret2
  have e : (w.alloc (.cells (madeCells #[.int .i64 0, .int .i64 0] (n * 2)) 88)).heap.size = w.heap.size + 1 := by simp only [World.alloc, Array.size_push]
  have hn : ({ ep := 0, at_ := 0, ws := List.replicate (n * 2) 0, fl := [] } : EpS).n = n := by unfold EpS.n; simp
  refine ⟨w.heap.size + 1, w.heap.size, rfl, ⟨?_, ?_, ?_, Nat.le_succ _, Nat.le_refl _, (by show w.heap.size + 1 ≠ w.heap.size; omega)⟩, ((Below.refl _ w).alloc (Nat.le_refl _) _).alloc (by rw [e]; omega) _⟩
  · have hk : ({ ep := 0, at_ := 0, ws := List.replicate (n * 2) 0, fl := [] } : EpS).k = 0 := by unfold EpS.k; simp
    rw [hn, hk, ← e]
    exact Blk.new _ _ _
  · obtain ⟨rest, hr⟩ := IB.made2 w 88 n .i64
    refine ⟨rest, (Below.heap_alloc _ _ _ ?_).trans hr⟩
    rw [e]; exact Nat.lt_succ_self _
  · have hk : ({ ep := 0, at_ := 0, ws := List.replicate (n * 2) 0, fl := [] } : EpS).k = 0 := by unfold EpS.k; simp
    rw [hk]
    exact World.ownsRow_nil _ _ _ _
set_option maxRecDepth 100000 in
theorem ep_new_not (n : Int) (hn : n < 1 ∨ 64 < n) (w : World) :
    Calls Try.prog 31 #[.int .i64 n] w fun e w' => e = .returned (.tuple #[.pointer none, .int .i64 6]) ∧ w = w' := by
  by_cases h1 : n < 1
  · have t1 : decide (n < 1) = true := by simpa using h1
    clear h1 hn
    go_enter Try.func31, Try.ntmps31
    go_wp2
    go_ret2
    exact ⟨rfl, rfl⟩
  · have t1 : decide (n < 1) = false := by simpa using h1
    have t2 : decide (n > 64) = true := by simp; omega
    clear h1 hn
    go_enter Try.func31, Try.ntmps31
    go_wp2
    go_ret2
    exact ⟨rfl, rfl⟩
end Go.Proofs.Ytoodifpkconfcaa
