/- begins23: answers that are given. -/
import Derived.Test.YtlmgfbhgamchgaaTrI
namespace Go.Proofs.Ytlmgfbhgamchgaa
open Go.RowKit
theorem vc_one (w : World) (x : Int) (hx : -2147483648 ≤ x ∧ x ≤ 2147483647) : Vc.At (w.alloc (.cells #[.int .i32 x] 21)) (w.alloc (.cells #[.int .i32 x] 21)).heap.size ⟨some ⟨w.heap.size, 0, none⟩, 1, 1, [x]⟩ := by
  refine ⟨(fun e => by cases e), ⟨Nat.le_refl _, by show 1 ≤ _; omega⟩, ⟨rfl, fun _ => ⟨w.heap.size, 0, rfl, by simp only [World.alloc, Array.size_push]; omega, fun j u hu => ?_⟩⟩, fun z hz => ?_⟩
  · rw [(Blk.new w 21 #[.int .i32 x]).cell, Nat.zero_add]
    simpa using hu
  · rw [List.mem_singleton] at hz; subst hz; exact hx
theorem vcs_row {w : World} {g t : Nat} {l : List Vc} (hb : Blk w g t (l.map Vc.v).toArray) (h : ∀ v ∈ l, v.At w w.heap.size) : Vcs w w.heap.size (some ⟨g, 0, none⟩) l.length l :=
  ⟨⟨by simp, fun _ => ⟨g, 0, rfl, hb.lt, fun j u hu => by rw [hb.cell, Nat.zero_add]; simpa using hu⟩⟩, h⟩
theorem Vcs.new (w : World) (t : Nat) (l : List Vc) (h : ∀ v ∈ l, v.At w w.heap.size) : Vcs (w.alloc (.cells (l.map Vc.v).toArray t)) (w.alloc (.cells (l.map Vc.v).toArray t)).heap.size (some ⟨w.heap.size, 0, none⟩) l.length l :=
  vcs_row (Blk.new w t (l.map Vc.v).toArray) fun v hv => (h v hv).on (Nat.le_refl _) (bel_boxT w _)
theorem Bk.new (w : World) (t : Nat) (A : Option Addr) (n c : Nat) (l : List Vc) (h : Vcs w w.heap.size A n l) (hc : n ≤ c) : Bk (w.alloc (.cells #[.slice A n c] t)) (w.alloc (.cells #[.slice A n c] t)).heap.size w.heap.size A n c l :=
  ⟨(Blk.new w t #[.slice A n c]).lt, (Blk.new w t #[.slice A n c]).cell 0, h.on (Nat.le_refl _) (bel_boxT w _), hc⟩
theorem g23 : (gOf [[0], [9]] [7]).1 = 1 := by decide
theorem ok1 (x : Int) (hx : -16777216 ≤ x ∧ x ≤ 16777216) : OkV 1 [x] := ⟨rfl, fun i => by
  cases i with
  | zero => exact hx
  | succ i => show _ ≤ ig [x] (i + 1) ∧ _; simp [ig]⟩
theorem sz_one (w : World) (o : Obj) : (w.alloc o).heap.size = w.heap.size + 1 := by simp only [World.alloc, Array.size_push]
theorem enc23 (w : World) : Calls Try.prog 17 #[.slice (some ⟨w.heap.size + 1 + 1 + 1, 0, none⟩) 1 1, .slice (some ⟨w.heap.size + 1 + 1 + 1 + 1, 0, none⟩) 1 1]
    (((((w.alloc (.cells #[.int .i32 0] 21)).alloc (.cells #[.int .i32 9] 21)).alloc (.cells #[.slice (some ⟨w.heap.size, 0, none⟩) 1 1, .slice (some ⟨w.heap.size + 1, 0, none⟩) 1 1] 22)).alloc (.cells #[.slice (some ⟨w.heap.size + 1 + 1, 0, none⟩) 2 2] 34)).alloc (.cells #[.int .i32 7] 21))
    fun e w' => ∃ E, e = .returned (.tuple #[.slice (some ⟨E, 0, none⟩) 1 1, .int .i64 0]) ∧ w'.cell? ⟨E, 0, none⟩ = some (.int .i64 1) ∧ E < w'.heap.size ∧ Below w.heap.size w w' := by
  have a1 := vc_one w 0 (by omega)
  have s1 := sz_one w (.cells #[.int .i32 0] 21)
  have b1 := bel_boxT w (.cells #[.int .i32 0] 21)
  obtain ⟨w1, hw1⟩ : ∃ x, w.alloc (.cells #[.int .i32 0] 21) = x := ⟨_, rfl⟩
  rw [hw1] at a1 s1 b1 ⊢
  rw [← s1]
  have a2 := vc_one w1 9 (by omega)
  have s2 := sz_one w1 (.cells #[.int .i32 9] 21)
  have b2 := bel_boxT w1 (.cells #[.int .i32 9] 21)
  obtain ⟨w2, hw2⟩ : ∃ x, w1.alloc (.cells #[.int .i32 9] 21) = x := ⟨_, rfl⟩
  rw [hw2] at a2 s2 b2 ⊢
  rw [← s2]
  have a3 := Vcs.new w2 22 [⟨some ⟨w.heap.size, 0, none⟩, 1, 1, [0]⟩, ⟨some ⟨w1.heap.size, 0, none⟩, 1, 1, [9]⟩] (fun v hv => by
    rcases List.mem_cons.1 hv with rfl | hv
    · exact a1.on (Nat.le_refl _) b2
    · rw [List.mem_singleton] at hv; subst hv; exact a2)
  have s3 := sz_one w2 (.cells #[.slice (some ⟨w.heap.size, 0, none⟩) 1 1, .slice (some ⟨w1.heap.size, 0, none⟩) 1 1] 22)
  have b3 := bel_boxT w2 (.cells #[.slice (some ⟨w.heap.size, 0, none⟩) 1 1, .slice (some ⟨w1.heap.size, 0, none⟩) 1 1] 22)
  have a3 : Vcs (w2.alloc (.cells #[.slice (some ⟨w.heap.size, 0, none⟩) 1 1, .slice (some ⟨w1.heap.size, 0, none⟩) 1 1] 22)) (w2.alloc (.cells #[.slice (some ⟨w.heap.size, 0, none⟩) 1 1, .slice (some ⟨w1.heap.size, 0, none⟩) 1 1] 22)).heap.size (some ⟨w2.heap.size, 0, none⟩) 2 [⟨some ⟨w.heap.size, 0, none⟩, 1, 1, [0]⟩, ⟨some ⟨w1.heap.size, 0, none⟩, 1, 1, [9]⟩] := a3
  obtain ⟨w3, hw3⟩ : ∃ x, w2.alloc (.cells #[.slice (some ⟨w.heap.size, 0, none⟩) 1 1, .slice (some ⟨w1.heap.size, 0, none⟩) 1 1] 22) = x := ⟨_, rfl⟩
  rw [hw3] at a3 s3 b3 ⊢
  rw [← s3]
  have a4 := Bk.new w3 34 _ _ 2 _ a3 (Nat.le_refl _)
  have s4 := sz_one w3 (.cells #[.slice (some ⟨w2.heap.size, 0, none⟩) 2 2] 34)
  have b4 := bel_boxT w3 (.cells #[.slice (some ⟨w2.heap.size, 0, none⟩) 2 2] 34)
  obtain ⟨w4, hw4⟩ : ∃ x, w3.alloc (.cells #[.slice (some ⟨w2.heap.size, 0, none⟩) 2 2] 34) = x := ⟨_, rfl⟩
  rw [hw4] at a4 s4 b4 ⊢
  rw [← s4]
  have a5 := vc_one w4 7 (by omega)
  have b5 := bel_boxT w4 (.cells #[.int .i32 7] 21)
  obtain ⟨w5, hw5⟩ : ∃ x, w4.alloc (.cells #[.int .i32 7] 21) = x := ⟨_, rfl⟩
  rw [hw5] at a5 b5 ⊢
  have B : Below w.heap.size w w5 := (((b1.trans (b2.mono (by omega))).trans (b3.mono (by omega))).trans (b4.mono (by omega))).trans (b5.mono (by omega))
  refine (q_encode w3.heap.size _ 2 2 _ ⟨some ⟨w4.heap.size, 0, none⟩, 1, 1, [7]⟩ w5 (a4.on (Nat.le_refl _) b5) (by omega) (by omega) a5 (Nat.le_refl 1) (by show 1 ≤ 4096; omega) (by show rightL [[0], [9]] = true; decide) rfl (ok1 7 (by omega))).mono ?_
  rintro e w' ⟨E, rfl, h1, h2, h3⟩
  exact ⟨E, rfl, h2, h1, B.trans (h3.mono B.size)⟩
theorem grp23 (w : World) : Calls Try.prog 16 #[.slice (some ⟨w.heap.size + 1, 0, none⟩) 1 1, .slice (some ⟨w.heap.size + 1 + 1 + 1 + 1, 0, none⟩) 2 2]
    (((((w.alloc (.cells #[.int .i32 7] 21)).alloc (.cells #[.slice (some ⟨w.heap.size, 0, none⟩) 1 1] 22)).alloc (.cells #[.int .i32 0] 21)).alloc (.cells #[.int .i32 9] 21)).alloc (.cells #[.slice (some ⟨w.heap.size + 1 + 1, 0, none⟩) 1 1, .slice (some ⟨w.heap.size + 1 + 1 + 1, 0, none⟩) 1 1] 22))
    fun e w' => ∃ E, e = .returned (.slice (some ⟨E, 0, none⟩) 1 1) ∧ w'.cell? ⟨E, 0, none⟩ = some (.int .i64 1) ∧ Below w.heap.size w w' := by
  have a1 := vc_one w 7 (by omega)
  have s1 := sz_one w (.cells #[.int .i32 7] 21)
  have b1 := bel_boxT w (.cells #[.int .i32 7] 21)
  obtain ⟨w1, hw1⟩ : ∃ x, w.alloc (.cells #[.int .i32 7] 21) = x := ⟨_, rfl⟩
  rw [hw1] at a1 s1 b1 ⊢
  rw [← s1]
  have a2 := Vcs.new w1 22 [⟨some ⟨w.heap.size, 0, none⟩, 1, 1, [7]⟩] (fun v hv => by rw [List.mem_singleton] at hv; subst hv; exact a1)
  have s2 := sz_one w1 (.cells #[.slice (some ⟨w.heap.size, 0, none⟩) 1 1] 22)
  have b2 := bel_boxT w1 (.cells #[.slice (some ⟨w.heap.size, 0, none⟩) 1 1] 22)
  have a2 : Vcs (w1.alloc (.cells #[.slice (some ⟨w.heap.size, 0, none⟩) 1 1] 22)) (w1.alloc (.cells #[.slice (some ⟨w.heap.size, 0, none⟩) 1 1] 22)).heap.size (some ⟨w1.heap.size, 0, none⟩) 1 [⟨some ⟨w.heap.size, 0, none⟩, 1, 1, [7]⟩] := a2
  obtain ⟨w2, hw2⟩ : ∃ x, w1.alloc (.cells #[.slice (some ⟨w.heap.size, 0, none⟩) 1 1] 22) = x := ⟨_, rfl⟩
  rw [hw2] at a2 s2 b2 ⊢
  rw [← s2]
  have a3 := vc_one w2 0 (by omega)
  have s3 := sz_one w2 (.cells #[.int .i32 0] 21)
  have b3 := bel_boxT w2 (.cells #[.int .i32 0] 21)
  obtain ⟨w3, hw3⟩ : ∃ x, w2.alloc (.cells #[.int .i32 0] 21) = x := ⟨_, rfl⟩
  rw [hw3] at a3 s3 b3 ⊢
  rw [← s3]
  have a4 := vc_one w3 9 (by omega)
  have s4 := sz_one w3 (.cells #[.int .i32 9] 21)
  have b4 := bel_boxT w3 (.cells #[.int .i32 9] 21)
  obtain ⟨w4, hw4⟩ : ∃ x, w3.alloc (.cells #[.int .i32 9] 21) = x := ⟨_, rfl⟩
  rw [hw4] at a4 s4 b4 ⊢
  rw [← s4]
  have a5 := Vcs.new w4 22 [⟨some ⟨w2.heap.size, 0, none⟩, 1, 1, [0]⟩, ⟨some ⟨w3.heap.size, 0, none⟩, 1, 1, [9]⟩] (fun v hv => by
    rcases List.mem_cons.1 hv with rfl | hv
    · exact a3.on (Nat.le_refl _) b4
    · rw [List.mem_singleton] at hv; subst hv; exact a4)
  have b5 := bel_boxT w4 (.cells #[.slice (some ⟨w2.heap.size, 0, none⟩) 1 1, .slice (some ⟨w3.heap.size, 0, none⟩) 1 1] 22)
  have a5 : Vcs (w4.alloc (.cells #[.slice (some ⟨w2.heap.size, 0, none⟩) 1 1, .slice (some ⟨w3.heap.size, 0, none⟩) 1 1] 22)) (w4.alloc (.cells #[.slice (some ⟨w2.heap.size, 0, none⟩) 1 1, .slice (some ⟨w3.heap.size, 0, none⟩) 1 1] 22)).heap.size (some ⟨w4.heap.size, 0, none⟩) 2 [⟨some ⟨w2.heap.size, 0, none⟩, 1, 1, [0]⟩, ⟨some ⟨w3.heap.size, 0, none⟩, 1, 1, [9]⟩] := a5
  obtain ⟨w5, hw5⟩ : ∃ x, w4.alloc (.cells #[.slice (some ⟨w2.heap.size, 0, none⟩) 1 1, .slice (some ⟨w3.heap.size, 0, none⟩) 1 1] 22) = x := ⟨_, rfl⟩
  rw [hw5] at a5 b5 ⊢
  have B : Below w.heap.size w w5 := (((b1.trans (b2.mono (by omega))).trans (b3.mono (by omega))).trans (b4.mono (by omega))).trans (b5.mono (by omega))
  have b25 : Below w2.heap.size w2 w5 := (b3.trans (b4.mono (by omega))).trans (b5.mono (by omega))
  refine (cl_groups _ 1 1 _ _ 2 2 _ w5 (a2.on (Nat.le_refl _) b25) a5 (by omega) (by omega) (by omega) (by omega)).mono ?_
  rintro e w' ⟨E, rfl, _, h2, h3⟩
  obtain ⟨b, o, e, _, hc⟩ := h2.atI (k := 0) (by omega)
  injection e with e
  injection e with e1 e2
  subst e1 e2
  exact ⟨E, rfl, hc, B.trans (h3.mono B.size)⟩
set_option maxRecDepth 100000 in
set_option maxHeartbeats 2000000 in
theorem begins23_any (w : World) : Calls Try.prog 11 #[] w fun e w' => e = .returned (.bool true) ∧ Below w.heap.size w w' := by
  have HE := Lib.hid (enc23 w)
  have HG := Lib.hid grp23
  go_enter Try.func11, Try.ntmps11
  go_wp2_with (first
    | (go_at_call 17; (with_reducible refine HE.out.mono ?_); rintro e w1 ⟨E, rfl, hc1, hl1, hb1⟩; have HC1 := Lib.hid hc1; have HL1 := Lib.hid hl1; have HB1 := Lib.hid hb1; clear hc1 hl1 hb1)
    | (go_at_call 16; (with_reducible refine (HG.out w1).mono ?_); rintro e w2 ⟨E2, rfl, hc2, hb2⟩; have hc1 := (hb2.cell (p := ⟨E, 0, none⟩) HL1.out).trans HC1.out; have HB2 := Lib.hid (HB1.out.trans (hb2.mono HB1.out.size)); clear hb2))
  go_ret
  exact ⟨rfl, HB2.out⟩
end Go.Proofs.Ytlmgfbhgamchgaa
