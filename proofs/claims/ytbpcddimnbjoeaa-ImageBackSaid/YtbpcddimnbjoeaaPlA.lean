/- Planes: whether a slot is there. -/
import Derived.Test.YtbpcddimnbjoeaaPlP
namespace Go.Proofs.Ytbpcddimnbjoeaa
open Go.RowKit
/-- The boxed plane. -/
theorem box_plane {w w1 : World} {A : Option Addr} {n c : Nat} {en tp : Int} (h : w.alloc (.cells (pgL A n c en tp) 24) = w1) : Blk w1 w.heap.size 24 (pgL A n c en tp) ∧ Below w.heap.size w w1 := by
  rw [← h]; exact ⟨Blk.new _ _ _, bel_box _ _⟩
theorem planeT : (Try.prog.info? 24).map (·.size) = some 3 := by kernel_rfl
theorem nodeT : (Try.prog.info? 42).map (·.size) = some 7 := by kernel_rfl
theorem plane_load {w : World} {b : Nat} {A : Option Addr} {n c : Nat} {en tp : Int} (h : Blk w b 24 (pgL A n c en tp)) : (Instr.loadAt 24 (.pointer (some ⟨b, 0, none⟩))).run Try.prog w = .ok (.agg (pgL A n c en tp)) w := row_load h Try.underlying24 rfl planeT
theorem node_load {w : World} {b o : Nat} {d : ND} (h : w.rangeAt b o d.cells.toList) : (Instr.loadAt 42 (.pointer (some ⟨b, o, none⟩))).run Try.prog w = .ok (.agg d.cells) w := range_load h Try.underlying42 rfl nodeT
set_option maxRecDepth 100000 in
theorem pl_there (A : Option Addr) (n c : Nat) (ns : List ND) (en tp : Int) (s : Int) (w : World) (hg : PgAt w w.heap.size A n c ns) :
    Calls Try.prog 16 #[.agg (pgL A n c en tp), .int .i64 s] w (RetB (thB ns s) w) := by
  obtain ⟨w1, hw1⟩ : ∃ x, w.alloc (.cells (pgL A n c en tp) 24) = x := ⟨_, rfl⟩
  obtain ⟨C1, b1⟩ := box_plane hw1
  have hlen := hg.len
  have hn := hg.2.1
  have hg1 := hg.below b1
  have c0 : w1.cell? ⟨w.heap.size, 0, none⟩ = some (.slice A n c) := C1.cell 0
  have HB := Lib.hid b1
  unfold pgL at hw1 ⊢
  by_cases h1 : 1 ≤ s
  · by_cases h2 : s < n
    · obtain ⟨k, rfl⟩ : ∃ k : Nat, s = k := ⟨s.toNat, by omega⟩
      have hk : k < n := by omega
      obtain ⟨b, o, d, rfl, hb, hd, hr, _⟩ := hg1.node hk
      have cN : w1.cell? ⟨b, o + k * 7 + 5, none⟩ = some (.int .i64 d.next) := hr 5 _ rfl
      have hv : thB ns k = decide (0 ≤ d.next) := by
        rw [thB_nat]
        unfold thN
        rw [nAt_of hd, decide_eq_true (show 1 ≤ k by omega), decide_eq_true (show k < ns.length by omega)]
        simp
      cases hq : decide (0 ≤ d.next) with
      | true =>
        have HR : Hid (thB ns k = true) := hv.trans hq
        have hq' : decide (d.next ≥ 0) = true := hq
        clear hd hr hg hg1 b1 C1 hlen hv hq
        go_enter Try.func16, Try.ntmps16
        go_upto_region 1 with fail
        (try rw [hw1])
        clear hw1
        go_wp2_with fail
        go_ret
        exact ⟨by rw [HR.out]; rfl, HB.out⟩
      | false =>
        have HR : Hid (thB ns k = false) := hv.trans hq
        have hq' : decide (d.next ≥ 0) = false := hq
        clear hd hr hg hg1 b1 C1 hlen hv hq
        go_enter Try.func16, Try.ntmps16
        go_upto_region 1 with fail
        (try rw [hw1])
        clear hw1
        go_wp2_with fail
        go_ret
        exact ⟨by rw [HR.out]; rfl, HB.out⟩
    · have HR : Hid (thB ns s = false) := by
        show _ = _
        unfold thB thN
        rw [decide_eq_false (show ¬ s.toNat < ns.length by omega)]
        simp
      clear hg hg1 b1 C1 hlen
      go_enter Try.func16, Try.ntmps16
      go_upto_region 1 with fail
      (try rw [hw1])
      clear hw1
      go_wp2_with fail
      go_ret
      exact ⟨by rw [HR.out]; rfl, HB.out⟩
  · have HR : Hid (thB ns s = false) := by
      show _ = _
      unfold thB thN
      by_cases h0 : 0 ≤ s
      · rw [decide_eq_false (show ¬ 1 ≤ s.toNat by omega)]
        simp
      · rw [decide_eq_false h0]
        simp
    clear hg hg1 b1 C1 hlen
    go_enter Try.func16, Try.ntmps16
    go_upto_region 1 with fail
    (try rw [hw1])
    clear hw1
    go_wp2_with fail
    go_ret
    exact ⟨by rw [HR.out]; rfl, HB.out⟩
set_option maxRecDepth 100000 in
theorem rf_there (A : Option Addr) (n c : Nat) (ns : List ND) (en tp : Int) (s : Int) (w : World) (hg : PgAt w w.heap.size A n c ns) :
    Calls Try.prog 23 #[.agg (pgL A n c en tp), .int .i64 s] w (RetB (thB ns s) w) := by
  obtain ⟨w1, hw1⟩ : ∃ x, w.alloc (.cells (pgL A n c en tp) 24) = x := ⟨_, rfl⟩
  obtain ⟨C1, b1⟩ := box_plane hw1
  have hlen := hg.len
  have hn := hg.2.1
  have hg1 := hg.below b1
  have c0 : w1.cell? ⟨w.heap.size, 0, none⟩ = some (.slice A n c) := C1.cell 0
  have HB := Lib.hid b1
  unfold pgL at hw1 ⊢
  by_cases h1 : 1 ≤ s
  · by_cases h2 : s < n
    · obtain ⟨k, rfl⟩ : ∃ k : Nat, s = k := ⟨s.toNat, by omega⟩
      have hk : k < n := by omega
      obtain ⟨b, o, d, rfl, hb, hd, hr, _⟩ := hg1.node hk
      have cN : w1.cell? ⟨b, o + k * 7 + 5, none⟩ = some (.int .i64 d.next) := hr 5 _ rfl
      have hv : thB ns k = decide (0 ≤ d.next) := by
        rw [thB_nat]
        unfold thN
        rw [nAt_of hd, decide_eq_true (show 1 ≤ k by omega), decide_eq_true (show k < ns.length by omega)]
        simp
      cases hq : decide (0 ≤ d.next) with
      | true =>
        have HR : Hid (thB ns k = true) := hv.trans hq
        have hq' : decide (d.next ≥ 0) = true := hq
        clear hd hr hg hg1 b1 C1 hlen hv hq
        go_enter Try.func23, Try.ntmps23
        go_upto_region 1 with fail
        (try rw [hw1])
        clear hw1
        go_wp2_with fail
        go_ret
        exact ⟨by rw [HR.out]; rfl, HB.out⟩
      | false =>
        have HR : Hid (thB ns k = false) := hv.trans hq
        have hq' : decide (d.next ≥ 0) = false := hq
        clear hd hr hg hg1 b1 C1 hlen hv hq
        go_enter Try.func23, Try.ntmps23
        go_upto_region 1 with fail
        (try rw [hw1])
        clear hw1
        go_wp2_with fail
        go_ret
        exact ⟨by rw [HR.out]; rfl, HB.out⟩
    · have HR : Hid (thB ns s = false) := by
        show _ = _
        unfold thB thN
        rw [decide_eq_false (show ¬ s.toNat < ns.length by omega)]
        simp
      clear hg hg1 b1 C1 hlen
      go_enter Try.func23, Try.ntmps23
      go_upto_region 1 with fail
      (try rw [hw1])
      clear hw1
      go_wp2_with fail
      go_ret
      exact ⟨by rw [HR.out]; rfl, HB.out⟩
  · have HR : Hid (thB ns s = false) := by
      show _ = _
      unfold thB thN
      by_cases h0 : 0 ≤ s
      · rw [decide_eq_false (show ¬ 1 ≤ s.toNat by omega)]
        simp
      · rw [decide_eq_false h0]
        simp
    clear hg hg1 b1 C1 hlen
    go_enter Try.func23, Try.ntmps23
    go_upto_region 1 with fail
    (try rw [hw1])
    clear hw1
    go_wp2_with fail
    go_ret
    exact ⟨by rw [HR.out]; rfl, HB.out⟩
end Go.Proofs.Ytbpcddimnbjoeaa
