/- Slots used again: New. -/
import Derived.Test.YthcmajeamandfaaArB
namespace Go.Proofs.Ythcmajeamandfaa
open Go.RowKit
theorem info_slot : (Try.prog.info? 67).map (fun i => (i.zero, i.size, i.bytes)) = some (some (.agg #[.int .i64 0, .int .i64 0]), 2, 16) := by kernel_rfl
theorem make_slots (n : Nat) (hn : n ≤ 1048576) (w : World) : (Instr.makeSlice 60 (.int .i64 (n : Int)) (.int .i64 (n : Int))).run Try.prog w = .ok (.slice (some ⟨w.heap.size, 0, none⟩) n n) (w.alloc (.cells (madeCells #[.int .i64 0, .int .i64 0] (n * 2)) 67)) := by
  obtain ⟨i, hi, hzz⟩ := Option.map_eq_some_iff.1 info_slot
  simp only [Prod.mk.injEq] at hzz
  obtain ⟨hz, hs, hb⟩ := hzz
  have hr := run_make (P := Try.prog) w 60 67 i _ Try.underlying60 hi hz .i64 .i64 n n (by omega) (Int.le_refl _) (by rw [hb]; omega) (by omega)
  simp only [Int.toNat_natCast, hs] at hr
  exact hr
theorem make_intsA (n : Nat) (hn : n ≤ 1048576) (w : World) : (Instr.makeSlice 49 (.int .i64 (n : Int)) (.int .i64 (n : Int))).run Try.prog w = .ok (.slice (some ⟨w.heap.size, 0, none⟩) n n) (w.alloc (.cells (madeCells #[.int .i64 0] n) 3)) := by
  obtain ⟨i, hi, hzz⟩ := Option.map_eq_some_iff.1 info_intA
  simp only [Prod.mk.injEq] at hzz
  obtain ⟨hz, hs, hb⟩ := hzz
  have hr := run_make (P := Try.prog) w 49 3 i _ Try.underlying49 hi hz .i64 .i64 n n (by omega) (Int.le_refl _) (by rw [hb]; omega) (by omega)
  simp only [Int.toNat_natCast, hs, Nat.mul_one] at hr
  exact hr
theorem made2_at {n i : Nat} (h : i < n * 2) : (madeCells #[.int .i64 0, .int .i64 0] (n * 2))[i]? = some (.int .i64 0) := by
  unfold madeCells
  rw [Array.getElem?_map, Array.getElem?_eq_getElem (by simpa using h)]
  have : i % 2 = 0 ∨ i % 2 = 1 := by omega
  rcases this with q | q <;> simp [q]
/-- The free slots, at first. -/
def frI (n k : Nat) : List Int := (List.range k).map fun i : Nat => ((n : Int) - (i : Int))
theorem frI_len (n k : Nat) : (frI n k).length = k := by simp [frI]
/-- An arena, as it is made. -/
structure NewA (w w' : World) (ap sb fb n k : Nat) : Prop where
  a : Blk w' ap 63 (arC sb fb n n n (fun _ => 0))
  s : Blk w' sb 67 (madeCells #[.int .i64 0, .int .i64 0] ((n + 1) * 2))
  f : ∃ C : Array Value, Blk w' fb 3 C ∧ C.size = n ∧ ∀ i, i < k → C[i]? = some (.int .i64 ((n : Int) - (i : Int)))
  ne : ap ≠ sb ∧ ap ≠ fb ∧ sb ≠ fb
  fresh : w.heap.size ≤ ap ∧ w.heap.size ≤ sb ∧ w.heap.size ≤ fb
  b : Below w.heap.size w w'
theorem NewA.step {w w' : World} {ap sb fb n k : Nat} (h : NewA w w' ap sb fb n k) (hk : k < n) : (∃ v, w'.cell? ⟨fb, k, none⟩ = some v) ∧ w'.frozen? ⟨fb, k, none⟩ = false ∧ NewA w (w'.setCell ⟨fb, k, none⟩ (.int .i64 ((n : Int) - (k : Int)))) ap sb fb n (k + 1) := by
  obtain ⟨C, h1, h2, h3⟩ := h.f
  have hT : Tch (fun x => x = fb) w' (w'.setCell ⟨fb, k, none⟩ (.int .i64 ((n : Int) - (k : Int)))) := Tch.setCell (S := fun x => x = fb) (Tch.refl _ w') rfl _ _
  refine ⟨⟨_, (h1.cell k).trans (Array.getElem?_eq_getElem (by rw [h2]; exact hk))⟩, h1.frozen k, h.a.tch hT (fun q => h.ne.2.1 q), h.s.tch hT (fun q => h.ne.2.2 q), ⟨_, h1.set_ k _, by rw [Array.size_setIfInBounds]; exact h2, fun i hi => ?_⟩, h.ne, h.fresh, h.b.trans (hT.below h.b.size (fun x hx => by subst hx; exact h.fresh.2.2))⟩
  by_cases e : i = k
  · subst e
    exact Array.getElem?_setIfInBounds_self_of_lt (by rw [h2]; exact hk)
  · rw [Array.getElem?_setIfInBounds_ne (by omega)]
    exact h3 i (by omega)
theorem NewA.done {w w' : World} {ap sb fb n : Nat} (h : NewA w w' ap sb fb n n) (hn : 1 ≤ n ∧ n ≤ 4096) : ArS w' ap sb fb n n (fun _ => 0) (fun _ => 0) (frI n n) (fun _ => 0) := by
  obtain ⟨C, h1, h2, h3⟩ := h.f
  refine ⟨by rw [frI_len]; exact h.a, ⟨_, h.s, size_madeCells _ _, fun i hi => ⟨made2_at (by omega), made2_at (by omega)⟩⟩, ⟨by simp [frI_len], .inr ⟨fb, n, C, by rw [frI_len], Nat.zero_le _, h1, by rw [frI_len]; exact Nat.le_refl _, by unfold maxLen; omega, by rw [h2, Nat.mul_one], ?_⟩⟩, h.ne, hn⟩
  rw [frI_len, Nat.mul_one]
  refine List.ext_getElem? fun m => ?_
  rw [List.getElem?_take]
  by_cases hm : m < n
  · rw [if_pos hm, Array.getElem?_toList, h3 m hm]
    simp [frI, hm]
  · rw [if_neg hm, List.getElem?_eq_none (by simp [frI_len]; omega)]
theorem yieldsIf_addA {ops : Array Oper} {S : World → Prop} {o : Oper} {a : Act} {t t' : TypeId} {m n r : Int} (hr : IntKind.i64.wrap (m + n) = r) (hw : Region.wanted o (yielded ops a.tmps) = true) (x y : Operand) (ho : o.op = .binOp .add t x y t') (hx : a.eval x = .int .i64 m) (hy : a.eval y = .int .i64 n) : YieldsIf Try.prog ops S o (.int .i64 r) a := by
  refine .inl ⟨hw, fun w _ => ?_⟩
  unfold execOp
  simp only [ho, hx, hy]
  simp [go_sem, ← hr]
theorem exec_mk {o : Oper} {ρ : Operand → Value} {T : TypeId} {x y : Operand} {n c : Int} {v : Value} {w w' : World} (ho : o.op = .makeSlice T x y) (hx : ρ x = .int .i64 n) (hy : ρ y = .int .i64 c) (h : (Instr.makeSlice T (.int .i64 n) (.int .i64 c)).run Try.prog w = .ok v w') : (execOp ρ o).run Try.prog w = .ok (.value v) w' := by
  unfold execOp
  simp only [ho, hx, hy, Sem.run_bind, Result.andThen_ok, h]
  rfl
theorem exec_box {o : Oper} {ρ : Operand → Value} {x : Operand} {sb fb n m c : Nat} {ct : Nat → Int} {w w' : World} (ho : o.op = .box 63 x) (hx : ρ x = .agg (arC sb fb n m c ct)) (h : w.alloc (.cells (arC sb fb n m c ct) 63) = w') : (execOp ρ o).run Try.prog w = .ok (.value (.pointer (some ⟨w.heap.size, 0, none⟩))) w' := by
  unfold execOp
  simp only [ho, hx]
  subst h
  kernel_rfl
set_option maxRecDepth 100000 in
set_option maxHeartbeats 4000000 in
theorem ar_new (n : Nat) (h1 : 1 ≤ n) (h2 : n ≤ 4096) (w : World) :
    Calls Try.prog 12 #[.int .i64 ((n : Nat) : Int)] w (fun e w' => ∃ ap sb fb, e = .returned (.tuple #[.pointer (some ⟨ap, 0, none⟩), .int .i64 0]) ∧ ArS w' ap sb fb n n (fun _ => 0) (fun _ => 0) (frI n n) (upA (fun _ => 0) 0 ((n : Nat) : Int)) ∧ Below w.heap.size w w' ∧ ∀ x, arF ap sb fb x → w.heap.size ≤ x) := by
  have t1 : decide ((n : Int) < 1) = false := decide_eq_false (by omega)
  have t2 : decide ((n : Int) > 4096) = false := decide_eq_false (by omega)
  have t1n : decide (n < 1) = false := decide_eq_false (by omega)
  have t2n : decide (4096 < n) = false := decide_eq_false (by omega)
  go_enter Try.func12, Try.ntmps12
  go_upto_region 3 with fail
  go_cut [4] from 12 to 19 (fun s4 wx => ∃ ap sb fb, s4 = .pointer (some ⟨ap, 0, none⟩) ∧ Hid (NewA w wx ap sb fb n 0))
  case first =>
    have e1 : IntKind.i64.wrap ((n : Int) + 1) = ((n + 1 : Nat) : Int) := by rw [IntKind.wrap_i64]; omega
    refine wp_region_held_drew (S := fun w' => Below w.heap.size w w') (by kernel_rfl) (below_drewN (Below.refl _ w) 1) (fun hH => ?_)
    refine wpAnyH_take (i := 0) (v := .int .i64 ((n : Nat) : Int)) rfl (by kernel_rfl) (by kernel_rfl) (by kernel_rfl) (fun _ _ _ h => h) (.inl ⟨by rfl, fun _ _ => by kernel_rfl⟩) hH ?_
    (try simp only [List.getElem_toArray, List.getElem_cons_zero, Act.put, List.setIfInBounds_toArray, List.set_cons_zero, List.set_cons_succ])
    refine wpAnyH_take (i := 1) (v := .int .i64 ((n + 1 : Nat) : Int)) rfl (by kernel_rfl) (by kernel_rfl) (by kernel_rfl) (fun _ _ _ h => h) (yieldsIf_addA e1 (by rfl) _ _ rfl rfl rfl) hH ?_
    (try simp only [List.getElem_toArray, List.getElem_cons_zero, List.getElem_cons_succ, Act.put, List.setIfInBounds_toArray, List.set_cons_zero, List.set_cons_succ])
    refine wpAnyH_take (i := 3) (v := .int .i64 ((n : Nat) : Int)) rfl (by kernel_rfl) (by kernel_rfl) (by kernel_rfl) (fun _ _ _ h => h) (.inl ⟨by rfl, fun _ _ => by kernel_rfl⟩) hH ?_
    (try simp only [List.getElem_toArray, List.getElem_cons_zero, List.getElem_cons_succ, Act.put, List.setIfInBounds_toArray, List.set_cons_zero, List.set_cons_succ])
    obtain ⟨W0, hW0⟩ : ∃ x, w.drew = x := ⟨_, rfl⟩
    rw [hW0] at hH ⊢
    refine wpAnyH_all (rs := [2, 4]) (by kernel_rfl) (by simp) (fun i hi => ?_)
    rcases (by simpa using hi : i = 2 ∨ i = 4) with rfl | rfl
    · have r1 : (Instr.makeSlice 60 (.int .i64 (((n + 1) : Nat) : Int)) (.int .i64 (((n + 1) : Nat) : Int))).run Try.prog W0 = .ok (.slice (some ⟨W0.heap.size, 0, none⟩) (n + 1) (n + 1)) _ := make_slots (n + 1) (by omega) W0
      obtain ⟨W1, hW1⟩ : ∃ x, W0.alloc (.cells (madeCells #[.int .i64 0, .int .i64 0] ((n + 1) * 2)) 67) = x := ⟨_, rfl⟩
      rw [hW1] at r1
      have h1 : Below w.heap.size w W1 := by rw [← hW1]; exact hH.alloc hH.size _
      have s1 : W1.heap.size = W0.heap.size + 1 := by rw [← hW1]; simp only [World.alloc, Array.size_push]
      have k1 : Blk W1 W0.heap.size 67 (madeCells #[.int .i64 0, .int .i64 0] ((n + 1) * 2)) := by rw [← hW1]; exact Blk.new _ _ _
      have r2 : (Instr.makeSlice 49 (.int .i64 ((n : Nat) : Int)) (.int .i64 ((n : Nat) : Int))).run Try.prog W1 = .ok (.slice (some ⟨W1.heap.size, 0, none⟩) n n) _ := make_intsA n (by omega) W1
      obtain ⟨W2, hW2⟩ : ∃ x, W1.alloc (.cells (madeCells #[.int .i64 0] n) 3) = x := ⟨_, rfl⟩
      rw [hW2] at r2
      have h2 : Below w.heap.size w W2 := by rw [← hW2]; exact h1.alloc h1.size _
      have b2 : Below W1.heap.size W1 W2 := by rw [← hW2]; exact bel_boxN _ _
      have s2 : W2.heap.size = W1.heap.size + 1 := by rw [← hW2]; simp only [World.alloc, Array.size_push]
      have k1 := k1.below b2 k1.lt
      have k2 : Blk W2 W1.heap.size 3 (madeCells #[.int .i64 0] n) := by rw [← hW2]; exact Blk.new _ _ _
      obtain ⟨W3, hW3⟩ : ∃ x, W2.alloc (.cells (arC W0.heap.size W1.heap.size n n n (fun _ => 0)) 63) = x := ⟨_, rfl⟩
      have h3 : Below w.heap.size w W3 := by rw [← hW3]; exact h2.alloc h2.size _
      have b3 : Below W2.heap.size W2 W3 := by rw [← hW3]; exact bel_boxN _ _
      have k1 := k1.below b3 k1.lt
      have k2 := k2.below b3 k2.lt
      have k3 : Blk W3 W2.heap.size 63 (arC W0.heap.size W1.heap.size n n n (fun _ => 0)) := by rw [← hW3]; exact Blk.new _ _ _
      have hHs := hH.size
      have HN : Hid (NewA w W3 W2.heap.size W0.heap.size W1.heap.size n 0) := ⟨k3, k1, ⟨_, k2, size_madeCells _ _, fun i hi => absurd hi (Nat.not_lt_zero _)⟩, ⟨by omega, by omega, by omega⟩, ⟨by omega, by omega, by omega⟩, h3⟩
      clear k1 k2 k3 b2 b3 s1 s2 hHs
      refine wpOp_value (w' := W1) (.slice (some ⟨W0.heap.size, 0, none⟩) (n + 1) (n + 1)) (by rfl) (by kernel_rfl) (exec_mk (by rfl) (by rfl) (by rfl) r1) ⟨h1, ?_⟩
      (try simp only [List.getElem_toArray, List.getElem_cons_zero, List.getElem_cons_succ, Act.put, List.setIfInBounds_toArray, List.set_cons_zero, List.set_cons_succ])
      refine wpAnyH_makeK 4 (.slice (some ⟨W1.heap.size, 0, none⟩) n n) (by kernel_rfl) (by rfl) (by kernel_rfl) (exec_mk (by rfl) (by rfl) (by rfl) r2) h2 ?_
      (try simp only [List.getElem_toArray, List.getElem_cons_zero, List.getElem_cons_succ, Act.put, List.setIfInBounds_toArray, List.set_cons_zero, List.set_cons_succ])
      refine wpAnyH_take (i := 5) (v := .agg (arC W0.heap.size W1.heap.size n n n (fun _ => 0))) rfl (by kernel_rfl) (by kernel_rfl) (by kernel_rfl) (fun _ _ _ h => h) (.inl ⟨by rfl, fun _ _ => by kernel_rfl⟩) h2 ?_
      (try simp only [List.getElem_toArray, List.getElem_cons_zero, List.getElem_cons_succ, Act.put, List.setIfInBounds_toArray, List.set_cons_zero, List.set_cons_succ])
      refine wpAnyH_makeK 6 (.pointer (some ⟨W2.heap.size, 0, none⟩)) (by kernel_rfl) (by rfl) (by kernel_rfl) (exec_box (by rfl) (by rfl) hW3) h3 ?_
      (try simp only [List.getElem_toArray, List.getElem_cons_zero, List.getElem_cons_succ, Act.put, List.setIfInBounds_toArray, List.set_cons_zero, List.set_cons_succ])
      refine wpAnyH_take (i := 7) (v := .pointer (some ⟨W2.heap.size, 0, none⟩)) rfl (by kernel_rfl) (by kernel_rfl) (by kernel_rfl) (fun _ _ _ h => h) (.inl ⟨by rfl, fun _ _ => by kernel_rfl⟩) h3 ?_
      (try simp only [List.getElem_toArray, List.getElem_cons_zero, List.getElem_cons_succ, Act.put, List.setIfInBounds_toArray, List.set_cons_zero, List.set_cons_succ])
      refine wpAnyH_done (by kernel_rfl) ?_ _
      clear r1 r2 h1 h2 h3 hW1 hW2 hW3 hH
      go_wp2_with fail
      go_meet
      exact ⟨_, W0.heap.size, W1.heap.size, rfl, HN⟩
    · have r1 : (Instr.makeSlice 49 (.int .i64 ((n : Nat) : Int)) (.int .i64 ((n : Nat) : Int))).run Try.prog W0 = .ok (.slice (some ⟨W0.heap.size, 0, none⟩) n n) _ := make_intsA n (by omega) W0
      obtain ⟨W1, hW1⟩ : ∃ x, W0.alloc (.cells (madeCells #[.int .i64 0] n) 3) = x := ⟨_, rfl⟩
      rw [hW1] at r1
      have h1 : Below w.heap.size w W1 := by rw [← hW1]; exact hH.alloc hH.size _
      have s1 : W1.heap.size = W0.heap.size + 1 := by rw [← hW1]; simp only [World.alloc, Array.size_push]
      have k1 : Blk W1 W0.heap.size 3 (madeCells #[.int .i64 0] n) := by rw [← hW1]; exact Blk.new _ _ _
      have r2 : (Instr.makeSlice 60 (.int .i64 (((n + 1) : Nat) : Int)) (.int .i64 (((n + 1) : Nat) : Int))).run Try.prog W1 = .ok (.slice (some ⟨W1.heap.size, 0, none⟩) (n + 1) (n + 1)) _ := make_slots (n + 1) (by omega) W1
      obtain ⟨W2, hW2⟩ : ∃ x, W1.alloc (.cells (madeCells #[.int .i64 0, .int .i64 0] ((n + 1) * 2)) 67) = x := ⟨_, rfl⟩
      rw [hW2] at r2
      have h2 : Below w.heap.size w W2 := by rw [← hW2]; exact h1.alloc h1.size _
      have b2 : Below W1.heap.size W1 W2 := by rw [← hW2]; exact bel_boxN _ _
      have s2 : W2.heap.size = W1.heap.size + 1 := by rw [← hW2]; simp only [World.alloc, Array.size_push]
      have k1 := k1.below b2 k1.lt
      have k2 : Blk W2 W1.heap.size 67 (madeCells #[.int .i64 0, .int .i64 0] ((n + 1) * 2)) := by rw [← hW2]; exact Blk.new _ _ _
      obtain ⟨W3, hW3⟩ : ∃ x, W2.alloc (.cells (arC W1.heap.size W0.heap.size n n n (fun _ => 0)) 63) = x := ⟨_, rfl⟩
      have h3 : Below w.heap.size w W3 := by rw [← hW3]; exact h2.alloc h2.size _
      have b3 : Below W2.heap.size W2 W3 := by rw [← hW3]; exact bel_boxN _ _
      have k1 := k1.below b3 k1.lt
      have k2 := k2.below b3 k2.lt
      have k3 : Blk W3 W2.heap.size 63 (arC W1.heap.size W0.heap.size n n n (fun _ => 0)) := by rw [← hW3]; exact Blk.new _ _ _
      have hHs := hH.size
      have HN : Hid (NewA w W3 W2.heap.size W1.heap.size W0.heap.size n 0) := ⟨k3, k2, ⟨_, k1, size_madeCells _ _, fun i hi => absurd hi (Nat.not_lt_zero _)⟩, ⟨by omega, by omega, by omega⟩, ⟨by omega, by omega, by omega⟩, h3⟩
      clear k1 k2 k3 b2 b3 s1 s2 hHs
      refine wpOp_value (w' := W1) (.slice (some ⟨W0.heap.size, 0, none⟩) n n) (by rfl) (by kernel_rfl) (exec_mk (by rfl) (by rfl) (by rfl) r1) ⟨h1, ?_⟩
      (try simp only [List.getElem_toArray, List.getElem_cons_zero, List.getElem_cons_succ, Act.put, List.setIfInBounds_toArray, List.set_cons_zero, List.set_cons_succ])
      refine wpAnyH_makeK 2 (.slice (some ⟨W1.heap.size, 0, none⟩) (n + 1) (n + 1)) (by kernel_rfl) (by rfl) (by kernel_rfl) (exec_mk (by rfl) (by rfl) (by rfl) r2) h2 ?_
      (try simp only [List.getElem_toArray, List.getElem_cons_zero, List.getElem_cons_succ, Act.put, List.setIfInBounds_toArray, List.set_cons_zero, List.set_cons_succ])
      refine wpAnyH_take (i := 5) (v := .agg (arC W1.heap.size W0.heap.size n n n (fun _ => 0))) rfl (by kernel_rfl) (by kernel_rfl) (by kernel_rfl) (fun _ _ _ h => h) (.inl ⟨by rfl, fun _ _ => by kernel_rfl⟩) h2 ?_
      (try simp only [List.getElem_toArray, List.getElem_cons_zero, List.getElem_cons_succ, Act.put, List.setIfInBounds_toArray, List.set_cons_zero, List.set_cons_succ])
      refine wpAnyH_makeK 6 (.pointer (some ⟨W2.heap.size, 0, none⟩)) (by kernel_rfl) (by rfl) (by kernel_rfl) (exec_box (by rfl) (by rfl) hW3) h3 ?_
      (try simp only [List.getElem_toArray, List.getElem_cons_zero, List.getElem_cons_succ, Act.put, List.setIfInBounds_toArray, List.set_cons_zero, List.set_cons_succ])
      refine wpAnyH_take (i := 7) (v := .pointer (some ⟨W2.heap.size, 0, none⟩)) rfl (by kernel_rfl) (by kernel_rfl) (by kernel_rfl) (fun _ _ _ h => h) (.inl ⟨by rfl, fun _ _ => by kernel_rfl⟩) h3 ?_
      (try simp only [List.getElem_toArray, List.getElem_cons_zero, List.getElem_cons_succ, Act.put, List.setIfInBounds_toArray, List.set_cons_zero, List.set_cons_succ])
      refine wpAnyH_done (by kernel_rfl) ?_ _
      clear r1 r2 h1 h2 h3 hW1 hW2 hW3 hH
      go_wp2_with fail
      go_meet
      exact ⟨_, W1.heap.size, W0.heap.size, rfl, HN⟩
  case rest =>
  obtain ⟨ap, sb, fb, rfl, HN⟩ := hcut
  obtain ⟨W, hW⟩ : ∃ q, wc = q := ⟨_, rfl⟩
  rw [hW] at HN ⊢
  have c1 : W.cell? ⟨ap, 1, none⟩ = some (.slice (some ⟨fb, 0, none⟩) n n) := HN.out.a.cell 1
  clear hW
  go_upto_region 5 with fail
  go_loopw [5, 24] (fun _ s24 wr => ∃ (j : Nat), j ≤ n ∧ s24 = .int .i64 j ∧ Hid (NewA w wr ap sb fb n j)) (fun _ s24 _ => n - (intOf s24).toNat)
  case atStart => exact ⟨0, Nat.zero_le _, rfl, HN⟩
  case round =>
    clear c1 HN
    obtain ⟨j, hj, rfl, HI⟩ := hrel
    by_cases hlt : j < n
    · obtain ⟨⟨v0, cj⟩, fj, hst⟩ := HI.out.step hlt
      have HS := Lib.hid hst
      have c1 : wr.cell? ⟨ap, 1, none⟩ = some (.slice (some ⟨fb, 0, none⟩) n n) := HI.out.a.cell 1
      have e2 : wrap64 ((n : Int) - (j : Int)) = (n : Int) - (j : Int) := by unfold wrap64; omega
      clear hst
      go_wp2_with fail
      go_roundw
      case rel => exact ⟨j + 1, by omega, by go_num, HS⟩
      case measure => simp [intOf]; omega
    · obtain rfl : j = n := by omega
      have hD := HI.out.done ⟨h1, h2⟩
      have hb := HI.out.b
      have hfr := HI.out.fresh
      have c2 : wr.cell? ⟨ap, 2, none⟩ = some (.int .i64 0) := hD.cnt (j := 0) (by decide)
      have f2 : wr.frozen? ⟨ap, 2, none⟩ = false := hD.a.frozen _
      have hS : ArS (wr.setCell ⟨ap, 2, none⟩ (.int .i64 ((j : Nat) : Int))) ap sb fb j j _ _ _ _ := hD.setC (j := 0) (by decide) ((j : Nat) : Int)
      have hT : Below w.heap.size w (wr.setCell ⟨ap, 2, none⟩ (.int .i64 ((j : Nat) : Int))) := hb.trans ((Tch.setCell (S := fun x => x = ap) (Tch.refl _ wr) rfl _ _).below hb.size (fun x hx => by subst hx; exact hfr.1))
      have HS := Lib.hid hS
      have HT := Lib.hid hT
      have HF := Lib.hid hfr
      clear hD hb hfr hS hT HI
      go_wp2_with fail
      go_ret2
      exact ⟨ap, rfl, sb, fb, HS.out, HT.out, fun x hx => by
        have := HF.out
        rcases hx with rfl | rfl | rfl
        · exact this.1
        · exact this.2.1
        · exact this.2.2⟩
set_option maxRecDepth 100000 in
theorem ar_newN (n : Int) (hn : n < 1 ∨ 4096 < n) (w : World) : Calls Try.prog 12 #[.int .i64 n] w (fun e w' => e = .returned (.tuple #[.pointer none, .int .i64 6]) ∧ w = w') := by
  cases t1 : decide (n < 1)
  · have t2 : decide (n > 4096) = true := decide_eq_true (by have := of_decide_eq_false t1; omega)
    go_enter Try.func12, Try.ntmps12
    go_wp2_with fail
    go_ret2
    exact ⟨rfl, rfl⟩
  · go_enter Try.func12, Try.ntmps12
    go_wp2_with fail
    go_ret2
    exact ⟨rfl, rfl⟩
end Go.Proofs.Ythcmajeamandfaa
