/- Getter: what is compared: vectors, items, calls, tellings, operations. -/
import Derived.Test.YtkhnnjeinpojkaaGtU
import Derived.Test.YtkhnnjeinpojkaaSame
namespace Go.Proofs.Ytkhnnjeinpojkaa
open Go.RowKit
set_option maxHeartbeats 400000 in
theorem rsame32 {w : World} {V V' : Value} {xs : List Int} (h : VV w V xs) (h' : VV w V' xs) :
    Calls Try.prog 95 #[V, V'] w fun e w' => e = .returned (.bool true) ∧ ∃ q, w' = w.drewN q := by
  obtain ⟨A, n, c, rfl, hn, _, hx⟩ := h
  obtain ⟨B, m, d, rfl, hm, _, hy⟩ := h'
  have lx := hx.lenI
  have ly := hy.lenI
  obtain rfl : n = m := lx.symm.trans ly
  have HX := Lib.hid hx
  have HY := Lib.hid hy
  clear hx hy lx ly hm
  go_enter Try.func95, Try.ntmps95
  go_wp2
  go_loopw [13] (fun i wr => ∃ k : Nat, k ≤ n ∧ i = .int .i64 k ∧ (∃ q, wr = w.drewN q)) (fun i _ => n - (intOf i).toNat)
  case atStart => exact ⟨0, Nat.zero_le _, rfl, ⟨0, rfl⟩⟩
  case round =>
    obtain ⟨k, hk, rfl, ⟨q, rfl⟩⟩ := hrel
    by_cases hlt : k < n
    · obtain ⟨b, o, rfl, hb, hc⟩ := HX.out.atI hlt
      obtain ⟨b', o', rfl, hb', hc'⟩ := HY.out.atI hlt
      have h1 : (ig xs k != ig xs k) = false := by simp
      go_wp2
      go_quiet (fail)
      go_wp2
      go_roundw
      case rel => exact ⟨k + 1, by omega, by go_num, ⟨_, rfl⟩⟩
      case measure => simp [intOf]; omega
    · go_wp2
      go_ret
      exact ⟨rfl, ⟨_, rfl⟩⟩
/-- An item's cells. -/
def itemL (id : Int) (V : Value) (tags : Int) : Array Value := #[.int .u64 id, V, .int .u64 tags]
set_option maxRecDepth 100000 in
set_option maxHeartbeats 1000000 in
theorem same_item {w : World} {V V' : Value} {xs : List Int} (id tags : Int) (h : VV w V xs) (h' : VV w V' xs) :
    Calls Try.prog 67 #[.agg (itemL id V tags), .agg (itemL id V' tags)] w fun e w' => e = .returned (.bool true) ∧ Below w.heap.size w w' := by
  have b1 : Below w.heap.size w ((w.alloc (.cells (itemL id V tags) 25)).alloc (.cells (itemL id V' tags) 25)) := ((Below.refl _ w).alloc (Nat.le_refl _) _).alloc (by simp only [World.alloc, Array.size_push]; omega) _
  have HS := Lib.hid (rsame32 (h.below b1) (h'.below b1))
  have HB := Lib.hid b1
  obtain ⟨A, n, c, rfl, _⟩ := h
  obtain ⟨B, m, d, rfl, _⟩ := h'
  clear b1
  unfold itemL at *
  go_enter Try.func67, Try.ntmps67
  go_wp2_with fail
  refine HS.out.mono ?_
  rintro e w' ⟨rfl, q, rfl⟩
  have HB2 := Lib.hid (below_drewN HB.out q)
  clear HB HS
  go_wp2_with fail
  go_ret
  exact ⟨rfl, HB2.out⟩
set_option maxRecDepth 100000 in
set_option maxHeartbeats 1000000 in
theorem same_call {w : World} {V V' : Value} {xs : List Int} (k id tags kk ef dr : Int) (h : VV w V xs) (h' : VV w V' xs) :
    Calls Try.prog 96 #[.agg (callL k id V tags kk ef dr), .agg (callL k id V' tags kk ef dr)] w fun e w' => e = .returned (.bool true) ∧ Below w.heap.size w w' := by
  have b1 : Below w.heap.size w ((w.alloc (.cells (callL k id V tags kk ef dr) 27)).alloc (.cells (callL k id V' tags kk ef dr) 27)) := ((Below.refl _ w).alloc (Nat.le_refl _) _).alloc (by simp only [World.alloc, Array.size_push]; omega) _
  have HS := Lib.hid (same_item id tags (h.below b1) (h'.below b1))
  obtain ⟨w1, hw1⟩ : ∃ x, ((w.alloc (.cells (callL k id V tags kk ef dr) 27)).alloc (.cells (callL k id V' tags kk ef dr) 27)) = x := ⟨_, rfl⟩
  have s1 : (w.alloc (.cells (callL k id V tags kk ef dr) 27)).heap.size = w.heap.size + 1 := by simp only [World.alloc, Array.size_push]
  have D1 : Blk w1 w.heap.size 27 (callL k id V tags kk ef dr) := by rw [← hw1]; exact (Blk.new _ _ _).alloc _
  have E1 : Blk w1 (w.heap.size + 1) 27 (callL k id V' tags kk ef dr) := by rw [← hw1, ← s1]; exact Blk.new _ _ _
  rw [hw1] at b1 HS
  have HB := Lib.hid b1
  obtain ⟨A, n, c, rfl, _⟩ := h
  obtain ⟨B, m, d, rfl, _⟩ := h'
  have HD := Lib.hid D1
  have HE := Lib.hid E1
  have d0 : w1.cell? ⟨w.heap.size, 0, none⟩ = some (.int .i64 k) := D1.cell 0
  have d1 : w1.cell? ⟨w.heap.size, 1, none⟩ = some (.int .u64 id) := D1.cell 1
  have d2 : w1.cell? ⟨w.heap.size, 2, none⟩ = some (.slice A n c) := D1.cell 2
  have d3 : w1.cell? ⟨w.heap.size, 3, none⟩ = some (.int .u64 tags) := D1.cell 3
  have e0 : w1.cell? ⟨w.heap.size + 1, 0, none⟩ = some (.int .i64 k) := E1.cell 0
  have e1 : w1.cell? ⟨w.heap.size + 1, 1, none⟩ = some (.int .u64 id) := E1.cell 1
  have e2 : w1.cell? ⟨w.heap.size + 1, 2, none⟩ = some (.slice B m d) := E1.cell 2
  have e3 : w1.cell? ⟨w.heap.size + 1, 3, none⟩ = some (.int .u64 tags) := E1.cell 3
  clear b1 s1 D1 E1
  unfold itemL at HS
  go_enter Try.func96, Try.ntmps96
  go_upto_region 1 with fail
  (try rw [hw1])
  clear hw1
  go_wp2_with fail
  refine HS.out.mono ?_
  rintro e w2 ⟨rfl, b2⟩
  have D2 := Blk.below HD.out b2 HD.out.lt
  have E2 := Blk.below HE.out b2 HE.out.lt
  have f4 : w2.cell? ⟨w.heap.size, 4, none⟩ = some (.int .i64 kk) := D2.cell 4
  have f5 : w2.cell? ⟨w.heap.size, 5, none⟩ = some (.int .i64 ef) := D2.cell 5
  have f6 : w2.cell? ⟨w.heap.size, 6, none⟩ = some (.int .u64 dr) := D2.cell 6
  have g4 : w2.cell? ⟨w.heap.size + 1, 4, none⟩ = some (.int .i64 kk) := E2.cell 4
  have g5 : w2.cell? ⟨w.heap.size + 1, 5, none⟩ = some (.int .i64 ef) := E2.cell 5
  have g6 : w2.cell? ⟨w.heap.size + 1, 6, none⟩ = some (.int .u64 dr) := E2.cell 6
  have HB2 := Lib.hid (HB.out.trans (b2.mono HB.out.size))
  clear D2 E2 HB b2 HS HD HE d0 d1 d2 d3 e0 e1 e2 e3
  go_wp2_with fail
  go_ret
  exact ⟨rfl, HB2.out⟩
theorem same_hits (w : World) : Calls Try.prog 97 #[.slice none 0 0, .slice none 0 0] w fun e w' => e = .returned (.bool true) ∧ w = w' := by
  go_enter Try.func97, Try.ntmps97
  go_wp2
  go_loopw [13] (fun i wr => i = .int .i64 0 ∧ wr = w) (fun _ _ => 0)
  case atStart => exact ⟨rfl, rfl⟩
  case round =>
    obtain ⟨rfl, rfl⟩ := hrel
    go_wp2
    go_ret
    exact ⟨rfl, rfl⟩
end Go.Proofs.Ytkhnnjeinpojkaa
