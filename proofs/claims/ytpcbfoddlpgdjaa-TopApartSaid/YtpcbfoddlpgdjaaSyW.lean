/- Candidates in a row of the call's own: ranges exchanged, rotated; the insertion sort. Printed by genSyW.py. -/
import Derived.Test.YtpcbfoddlpgdjaaSyM
namespace Go.Proofs.Ytpcbfoddlpgdjaa
open Go.RowKit
set_option maxRecDepth 100000 in
set_option maxHeartbeats 4000000 in
theorem sy_swR (g n a b k : Nat) (f0 : Nat → Cd) (w : World) (h : HdC w g n f0) (hab : a + k ≤ b) (hbn : b + k ≤ n) (hn : n ≤ 1048576) :
    Calls Try.prog 85 #[.slice (some ⟨g, 0, none⟩) n n, .int .i64 (a : Nat), .int .i64 (b : Nat), .int .i64 (k : Nat), fvC] w fun e w' => e = .returned (.tuple #[]) ∧ HdC w' g n (swR f0 a b k) ∧ Tch (fun k => k = g) w w' := by
  have HH := Lib.hid h
  clear h
  unfold fvC
  go_enter Try.func85, Try.ntmps85
  go_wp2_with fail
  go_loopw [10] (fun s10 wr => ∃ i : Nat, i ≤ k ∧ s10 = .int .i64 i ∧ Hid (HdC wr g n (swR f0 a b i)) ∧ Hid (Tch (fun k => k = g) w wr)) (fun s10 _ => k - (intOf s10).toNat)
  case atStart => exact ⟨0, Nat.zero_le _, rfl, Lib.hid (by show HdC _ _ _ _; rw [swR_zero]; exact HH.out), Tch.refl _ _⟩
  case round =>
    obtain ⟨i, hi, rfl, HS0, HT⟩ := hrel
    by_cases hlt : i < k
    · obtain ⟨f, hf⟩ : ∃ f, swR f0 a b i = f := ⟨_, rfl⟩
      have HN : Hid (swR f0 a b (i + 1) = swF f (a + i) (b + i)) := by show _ = _; rw [swR_succ f0 (by omega), hf]
      rw [hf] at HS0
      have HS := HS0
      obtain ⟨x, hx⟩ : ∃ x, a + i = x := ⟨_, rfl⟩
      obtain ⟨y, hy⟩ : ∃ y, b + i = y := ⟨_, rfl⟩
      have EX := Lib.hid (show IntKind.i64.wrap (((a : Nat) : Int) + ((i : Nat) : Int)) = ((x : Nat) : Int) from wi_nat (by omega) (by omega))
      have EY := Lib.hid (show IntKind.i64.wrap (((b : Nat) : Int) + ((i : Nat) : Int)) = ((y : Nat) : Int) from wi_nat (by omega) (by omega))
      have HX : Hid (x < n) := by show _ < _; omega
      have HY : Hid (y < n) := by show _ < _; omega
      rw [hx, hy] at HN
      clear hf HS0 hx hy
      go_upto_region 3 with fail
      refine wp_region_held_drew (S := fun w' => Tch (fun k => k = g) wr w') (by kernel_rfl) ((Tch.refl _ wr).drewN 1) (fun hH => ?_)
      obtain ⟨W, hW⟩ : ∃ q, wr.drew = q := ⟨_, rfl⟩
      have HSW : Hid (HdC W g n f) := by show HdC _ _ _ _; rw [← hW]; exact HS.out.bel (below_drewN (Below.refl _ wr) 1)
      rw [hW] at hH ⊢
      clear hW
      refine wpAnyH_take (i := 0) (v := .slice (some ⟨g, 0, none⟩) n n) rfl (by kernel_rfl) (by kernel_rfl) (by kernel_rfl) (fun _ _ _ h => h) (.inl ⟨by rfl, fun _ _ => by kernel_rfl⟩) hH ?_
      (try simp only [List.getElem_toArray, List.getElem_cons_zero, Act.put, List.setIfInBounds_toArray, List.set_cons_zero, List.set_cons_succ])
      refine wpAnyH_take (i := 1) (v := .int .i64 ((a : Nat) : Int)) rfl (by kernel_rfl) (by kernel_rfl) (by kernel_rfl) (fun _ _ _ h => h) (.inl ⟨by rfl, fun _ _ => by kernel_rfl⟩) hH ?_
      (try simp only [List.getElem_toArray, List.getElem_cons_zero, List.getElem_cons_succ, Act.put, List.setIfInBounds_toArray, List.set_cons_zero, List.set_cons_succ])
      refine wpAnyH_take (i := 2) (v := .int .i64 ((i : Nat) : Int)) rfl (by kernel_rfl) (by kernel_rfl) (by kernel_rfl) (fun _ _ _ h => h) (.inl ⟨by rfl, fun _ _ => by kernel_rfl⟩) hH ?_
      (try simp only [List.getElem_toArray, List.getElem_cons_zero, List.getElem_cons_succ, Act.put, List.setIfInBounds_toArray, List.set_cons_zero, List.set_cons_succ])
      refine wpAnyH_take (i := 3) (v := .int .i64 ((x : Nat) : Int)) rfl (by kernel_rfl) (by kernel_rfl) (by kernel_rfl) (fun _ _ _ h => h) (yieldsIf_addS EX.out (by rfl) _ _ rfl rfl rfl) hH ?_
      (try simp only [List.getElem_toArray, List.getElem_cons_zero, List.getElem_cons_succ, Act.put, List.setIfInBounds_toArray, List.set_cons_zero, List.set_cons_succ])
      refine wpAnyH_take (i := 4) (v := .slice (some ⟨g, 0, none⟩) n n) rfl (by kernel_rfl) (by kernel_rfl) (by kernel_rfl) (fun _ _ _ h => h) (.inl ⟨by rfl, fun _ _ => by kernel_rfl⟩) hH ?_
      (try simp only [List.getElem_toArray, List.getElem_cons_zero, List.getElem_cons_succ, Act.put, List.setIfInBounds_toArray, List.set_cons_zero, List.set_cons_succ])
      refine wpAnyH_take (i := 5) (v := .int .i64 ((b : Nat) : Int)) rfl (by kernel_rfl) (by kernel_rfl) (by kernel_rfl) (fun _ _ _ h => h) (.inl ⟨by rfl, fun _ _ => by kernel_rfl⟩) hH ?_
      (try simp only [List.getElem_toArray, List.getElem_cons_zero, List.getElem_cons_succ, Act.put, List.setIfInBounds_toArray, List.set_cons_zero, List.set_cons_succ])
      refine wpAnyH_take (i := 6) (v := .int .i64 ((i : Nat) : Int)) rfl (by kernel_rfl) (by kernel_rfl) (by kernel_rfl) (fun _ _ _ h => h) (.inl ⟨by rfl, fun _ _ => by kernel_rfl⟩) hH ?_
      (try simp only [List.getElem_toArray, List.getElem_cons_zero, List.getElem_cons_succ, Act.put, List.setIfInBounds_toArray, List.set_cons_zero, List.set_cons_succ])
      refine wpAnyH_take (i := 7) (v := .int .i64 ((y : Nat) : Int)) rfl (by kernel_rfl) (by kernel_rfl) (by kernel_rfl) (fun _ _ _ h => h) (yieldsIf_addS EY.out (by rfl) _ _ rfl rfl rfl) hH ?_
      (try simp only [List.getElem_toArray, List.getElem_cons_zero, List.getElem_cons_succ, Act.put, List.setIfInBounds_toArray, List.set_cons_zero, List.set_cons_succ])
      refine wpAnyH_take (i := 8) (v := .slice (some ⟨g, 0, none⟩) n n) rfl (by kernel_rfl) (by kernel_rfl) (by kernel_rfl) (fun _ _ _ h => h) (.inl ⟨by rfl, fun _ _ => by kernel_rfl⟩) hH ?_
      (try simp only [List.getElem_toArray, List.getElem_cons_zero, List.getElem_cons_succ, Act.put, List.setIfInBounds_toArray, List.set_cons_zero, List.set_cons_succ])
      refine wpAnyH_take (i := 9) (v := .int .i64 ((b : Nat) : Int)) rfl (by kernel_rfl) (by kernel_rfl) (by kernel_rfl) (fun _ _ _ h => h) (.inl ⟨by rfl, fun _ _ => by kernel_rfl⟩) hH ?_
      (try simp only [List.getElem_toArray, List.getElem_cons_zero, List.getElem_cons_succ, Act.put, List.setIfInBounds_toArray, List.set_cons_zero, List.set_cons_succ])
      refine wpAnyH_take (i := 10) (v := .int .i64 ((i : Nat) : Int)) rfl (by kernel_rfl) (by kernel_rfl) (by kernel_rfl) (fun _ _ _ h => h) (.inl ⟨by rfl, fun _ _ => by kernel_rfl⟩) hH ?_
      (try simp only [List.getElem_toArray, List.getElem_cons_zero, List.getElem_cons_succ, Act.put, List.setIfInBounds_toArray, List.set_cons_zero, List.set_cons_succ])
      refine wpAnyH_take (i := 11) (v := .int .i64 ((y : Nat) : Int)) rfl (by kernel_rfl) (by kernel_rfl) (by kernel_rfl) (fun _ _ _ h => h) (yieldsIf_addS EY.out (by rfl) _ _ rfl rfl rfl) hH ?_
      (try simp only [List.getElem_toArray, List.getElem_cons_zero, List.getElem_cons_succ, Act.put, List.setIfInBounds_toArray, List.set_cons_zero, List.set_cons_succ])
      refine wpAnyH_take (i := 12) (v := .pointer (some ⟨g, 0 + y * 4, none⟩)) rfl (by kernel_rfl) (by kernel_rfl) (by kernel_rfl) (fun _ _ _ h => h) (yieldsIf_indexC (k := y) Try.underlying71 szCd (by rfl) _ _ rfl rfl rfl HY.out) hH ?_
      (try simp only [List.getElem_toArray, List.getElem_cons_zero, List.getElem_cons_succ, Act.put, List.setIfInBounds_toArray, List.set_cons_zero, List.set_cons_succ])
      refine wpAnyH_take (i := 14) (v := .slice (some ⟨g, 0, none⟩) n n) rfl (by kernel_rfl) (by kernel_rfl) (by kernel_rfl) (fun _ _ _ h => h) (.inl ⟨by rfl, fun _ _ => by kernel_rfl⟩) hH ?_
      (try simp only [List.getElem_toArray, List.getElem_cons_zero, List.getElem_cons_succ, Act.put, List.setIfInBounds_toArray, List.set_cons_zero, List.set_cons_succ])
      refine wpAnyH_take (i := 15) (v := .int .i64 ((a : Nat) : Int)) rfl (by kernel_rfl) (by kernel_rfl) (by kernel_rfl) (fun _ _ _ h => h) (.inl ⟨by rfl, fun _ _ => by kernel_rfl⟩) hH ?_
      (try simp only [List.getElem_toArray, List.getElem_cons_zero, List.getElem_cons_succ, Act.put, List.setIfInBounds_toArray, List.set_cons_zero, List.set_cons_succ])
      refine wpAnyH_take (i := 16) (v := .int .i64 ((i : Nat) : Int)) rfl (by kernel_rfl) (by kernel_rfl) (by kernel_rfl) (fun _ _ _ h => h) (.inl ⟨by rfl, fun _ _ => by kernel_rfl⟩) hH ?_
      (try simp only [List.getElem_toArray, List.getElem_cons_zero, List.getElem_cons_succ, Act.put, List.setIfInBounds_toArray, List.set_cons_zero, List.set_cons_succ])
      refine wpAnyH_take (i := 17) (v := .int .i64 ((x : Nat) : Int)) rfl (by kernel_rfl) (by kernel_rfl) (by kernel_rfl) (fun _ _ _ h => h) (yieldsIf_addS EX.out (by rfl) _ _ rfl rfl rfl) hH ?_
      (try simp only [List.getElem_toArray, List.getElem_cons_zero, List.getElem_cons_succ, Act.put, List.setIfInBounds_toArray, List.set_cons_zero, List.set_cons_succ])
      refine wpAnyH_take (i := 18) (v := .pointer (some ⟨g, 0 + x * 4, none⟩)) rfl (by kernel_rfl) (by kernel_rfl) (by kernel_rfl) (fun _ _ _ h => h) (yieldsIf_indexC (k := x) Try.underlying71 szCd (by rfl) _ _ rfl rfl rfl HX.out) hH ?_
      (try simp only [List.getElem_toArray, List.getElem_cons_zero, List.getElem_cons_succ, Act.put, List.setIfInBounds_toArray, List.set_cons_zero, List.set_cons_succ])
      refine wpAnyH_all (rs := [13, 19]) (by kernel_rfl) (by simp) (fun i9 hi9 => ?_)
      rcases (by simpa using hi9 : i9 = 13 ∨ i9 = 19) with rfl | rfl
      · refine wpOp_value (w' := W) (f y).v (by rfl) (by kernel_rfl) (exec_loadK (by rfl) (by rfl) (HSW.out.load HY.out)) ⟨hH, ?_⟩
        (try simp only [List.getElem_toArray, List.getElem_cons_zero, List.getElem_cons_succ, Act.put, List.setIfInBounds_toArray, List.set_cons_zero, List.set_cons_succ])
        refine wpAnyH_value 19 (f x).v (by kernel_rfl) (by rfl) (by kernel_rfl) (exec_loadK (by rfl) (by rfl) (HSW.out.load HX.out)) hH ?_
        (try simp only [List.getElem_toArray, List.getElem_cons_zero, List.getElem_cons_succ, Act.put, List.setIfInBounds_toArray, List.set_cons_zero, List.set_cons_succ])
        refine wpAnyH_take (i := 20) (v := .pointer (some ⟨g, 0 + x * 4, none⟩)) rfl (by kernel_rfl) (by kernel_rfl) (by kernel_rfl) (fun _ _ _ h => h) (yieldsIf_indexC (k := x) Try.underlying71 szCd (by rfl) _ _ rfl rfl rfl HX.out) hH ?_
        (try simp only [List.getElem_toArray, List.getElem_cons_zero, List.getElem_cons_succ, Act.put, List.setIfInBounds_toArray, List.set_cons_zero, List.set_cons_succ])
        have hH3 : Tch (fun k => k = g) wr (W.setCells g (x * 4) (f y).cells.toList) := Tch.setCells (S := fun k => k = g) rfl _ _ _ hH
        refine wpAnyH_store 21 _ _ _ (by kernel_rfl) (by rfl) (by kernel_rfl) (by rfl) (by rfl) (by rfl) (HSW.out.store (f y) HX.out) hH3 ?_
        (try simp only [List.getElem_toArray, List.getElem_cons_zero, List.getElem_cons_succ, Act.put])
        refine wpAnyH_take (i := 22) (v := .pointer (some ⟨g, 0 + y * 4, none⟩)) rfl (by kernel_rfl) (by kernel_rfl) (by kernel_rfl) (fun _ _ _ h => h) (yieldsIf_indexC (k := y) Try.underlying71 szCd (by rfl) _ _ rfl rfl rfl HY.out) hH3 ?_
        (try simp only [List.getElem_toArray, List.getElem_cons_zero, List.getElem_cons_succ, Act.put, List.setIfInBounds_toArray, List.set_cons_zero, List.set_cons_succ])
        refine wpAnyH_store 23 _ _ _ (by kernel_rfl) (by rfl) (by kernel_rfl) (by rfl) (by rfl) (by rfl) ((HSW.out.set (f y) HX.out).store (f x) HY.out) (Tch.setCells (S := fun k => k = g) rfl _ _ _ hH3) ?_
        (try simp only [List.getElem_toArray, List.getElem_cons_zero, List.getElem_cons_succ, Act.put])
        refine wpAnyH_done (by kernel_rfl) ?_ _
        have HSV := Lib.hid (HSW.out.sw HX.out HY.out)
        have HTV : Hid (Tch (fun k => k = g) wr ((W.setCells g (x * 4) (f y).cells.toList).setCells g (y * 4) (f x).cells.toList)) := Tch.setCells (S := fun k => k = g) rfl ((f x).cells.toList) (y * 4) _ hH3
        clear hH hH3 HSW
        go_wp2_with fail
        go_roundw
        case rel => exact ⟨i + 1, by omega, by go_num, by rw [HN.out]; exact HSV, Lib.hid (HT.out.trans HTV.out (fun _ q => .inl q))⟩
        case measure => simp [intOf]; omega
      · refine wpOp_value (w' := W) (f x).v (by rfl) (by kernel_rfl) (exec_loadK (by rfl) (by rfl) (HSW.out.load HX.out)) ⟨hH, ?_⟩
        (try simp only [List.getElem_toArray, List.getElem_cons_zero, List.getElem_cons_succ, Act.put, List.setIfInBounds_toArray, List.set_cons_zero, List.set_cons_succ])
        refine wpAnyH_value 13 (f y).v (by kernel_rfl) (by rfl) (by kernel_rfl) (exec_loadK (by rfl) (by rfl) (HSW.out.load HY.out)) hH ?_
        (try simp only [List.getElem_toArray, List.getElem_cons_zero, List.getElem_cons_succ, Act.put, List.setIfInBounds_toArray, List.set_cons_zero, List.set_cons_succ])
        refine wpAnyH_take (i := 20) (v := .pointer (some ⟨g, 0 + x * 4, none⟩)) rfl (by kernel_rfl) (by kernel_rfl) (by kernel_rfl) (fun _ _ _ h => h) (yieldsIf_indexC (k := x) Try.underlying71 szCd (by rfl) _ _ rfl rfl rfl HX.out) hH ?_
        (try simp only [List.getElem_toArray, List.getElem_cons_zero, List.getElem_cons_succ, Act.put, List.setIfInBounds_toArray, List.set_cons_zero, List.set_cons_succ])
        have hH3 : Tch (fun k => k = g) wr (W.setCells g (x * 4) (f y).cells.toList) := Tch.setCells (S := fun k => k = g) rfl _ _ _ hH
        refine wpAnyH_store 21 _ _ _ (by kernel_rfl) (by rfl) (by kernel_rfl) (by rfl) (by rfl) (by rfl) (HSW.out.store (f y) HX.out) hH3 ?_
        (try simp only [List.getElem_toArray, List.getElem_cons_zero, List.getElem_cons_succ, Act.put])
        refine wpAnyH_take (i := 22) (v := .pointer (some ⟨g, 0 + y * 4, none⟩)) rfl (by kernel_rfl) (by kernel_rfl) (by kernel_rfl) (fun _ _ _ h => h) (yieldsIf_indexC (k := y) Try.underlying71 szCd (by rfl) _ _ rfl rfl rfl HY.out) hH3 ?_
        (try simp only [List.getElem_toArray, List.getElem_cons_zero, List.getElem_cons_succ, Act.put, List.setIfInBounds_toArray, List.set_cons_zero, List.set_cons_succ])
        refine wpAnyH_store 23 _ _ _ (by kernel_rfl) (by rfl) (by kernel_rfl) (by rfl) (by rfl) (by rfl) ((HSW.out.set (f y) HX.out).store (f x) HY.out) (Tch.setCells (S := fun k => k = g) rfl _ _ _ hH3) ?_
        (try simp only [List.getElem_toArray, List.getElem_cons_zero, List.getElem_cons_succ, Act.put])
        refine wpAnyH_done (by kernel_rfl) ?_ _
        have HSV := Lib.hid (HSW.out.sw HX.out HY.out)
        have HTV : Hid (Tch (fun k => k = g) wr ((W.setCells g (x * 4) (f y).cells.toList).setCells g (y * 4) (f x).cells.toList)) := Tch.setCells (S := fun k => k = g) rfl ((f x).cells.toList) (y * 4) _ hH3
        clear hH hH3 HSW
        go_wp2_with fail
        go_roundw
        case rel => exact ⟨i + 1, by omega, by go_num, by rw [HN.out]; exact HSV, Lib.hid (HT.out.trans HTV.out (fun _ q => .inl q))⟩
        case measure => simp [intOf]; omega
    · obtain rfl : i = k := by omega
      go_wp2_with fail
      go_end0
      exact ⟨rfl, HS0.out, HT.out⟩
set_option maxRecDepth 100000 in
set_option maxHeartbeats 4000000 in
theorem sy_rot (g n a m b : Nat) (f0 : Nat → Cd) (w : World) (h : HdC w g n f0) (ham : a < m) (hmb : m < b) (hbn : b ≤ n) (hn : n ≤ 1048576) :
    Calls Try.prog 84 #[.slice (some ⟨g, 0, none⟩) n n, .int .i64 (a : Nat), .int .i64 (m : Nat), .int .i64 (b : Nat), fvC] w fun e w' => e = .returned (.tuple #[]) ∧ HdC w' g n (roF f0 a m b) ∧ (asL (roF f0 a m b) n).Perm (asL f0 n) ∧ Tch (fun k => k = g) w w' := by
  have HSR := Lib.hid (fun (a b k : Nat) (f0 : Nat → Cd) (w : World) (h : HdC w g n f0) (hab : a + k ≤ b) (hbn : b + k ≤ n) => sy_swR g n a b k f0 w h hab hbn hn)
  have HH := Lib.hid h
  clear h
  unfold fvC at HSR ⊢
  go_enter Try.func84, Try.ntmps84
  go_wp2_with fail
  go_loopw [10, 11] (fun s10 s11 wr => ∃ (i j : Nat) (f : Nat → Cd), 0 < i ∧ 0 < j ∧ i ≤ m ∧ m + j ≤ b ∧ s10 = .int .i64 i ∧ s11 = .int .i64 j ∧ Hid (HdC wr g n f) ∧ Hid (roF f (m - i) m (m + j) = roF f0 a m b) ∧ Hid ((asL f n).Perm (asL f0 n)) ∧ Hid (Tch (fun k => k = g) w wr)) (fun s10 s11 _ => (intOf s10).toNat + (intOf s11).toNat)
  case atStart => exact ⟨m - a, b - m, f0, by omega, by omega, by omega, by omega, congrArg (Value.int .i64) (by omega), congrArg (Value.int .i64) (by omega), HH, Lib.hid (by show _ = _; rw [show m - (m - a) = a by omega, show m + (b - m) = b by omega]), Lib.hid (List.Perm.refl _), Tch.refl _ _⟩
  case round =>
    obtain ⟨i, j, f, hi, hj, him, hjb, rfl, rfl, HS, HR, HP, HT⟩ := hrel
    rcases Nat.lt_trichotomy i j with hlt | hlt | hlt
    · have t1 : ((i : Int) != (j : Int)) = true := by rw [bne_iff_ne]; omega
      have t2 : decide ((j : Int) < (i : Int)) = false := by simp; omega
      have t3 : decide (j < i) = false := by simp; omega
      have e1 : (m : Int) - (i : Int) = ((m - i : Nat) : Int) := by omega
      have e3 : (m : Int) + (j : Int) - (i : Int) = ((m + j - i : Nat) : Int) := by omega
      have HSC := Lib.hid (HSR.out (m - i) (m + j - i) i f wr HS.out (by omega) (by omega))
      have HR2 : Hid (roF (swR f (m - i) (m + j - i) i) (m - i) m (m + (j - i)) = roF f0 a m b) := by show _ = _; rw [← roF_right f him hlt]; exact HR.out
      have HP2 : Hid ((asL (swR f (m - i) (m + j - i) i) n).Perm (asL f0 n)) := (asL_swR (by omega) (by omega)).trans HP.out
      go_wp2_with (go_at_call 85; (try simp only [e3, e1]); (with_reducible refine HSC.out.mono ?_); rintro e w2 ⟨rfl, h2, ht2⟩; have HS2 := Lib.hid h2; have HT2 := Lib.hid (HT.out.trans ht2 (fun _ q => .inl q)); clear h2 ht2)
      go_roundw
      case rel => exact ⟨i, j - i, _, hi, by omega, him, by omega, rfl, congrArg (Value.int .i64) (by omega), HS2, HR2, HP2, HT2⟩
      case measure => simp [intOf]; omega
    · subst hlt
      have t1 : ((i : Int) != (i : Int)) = false := by simp
      have e1 : (m : Int) - (i : Int) = ((m - i : Nat) : Int) := by omega
      have HSC := Lib.hid (HSR.out (m - i) m i f wr HS.out (by omega) (by omega))
      have HR2 : Hid (swR f (m - i) m i = roF f0 a m b) := by show _ = _; rw [← roF_same f him]; exact HR.out
      have HP2 : Hid ((asL (swR f (m - i) m i) n).Perm (asL f0 n)) := (asL_swR (by omega) (by omega)).trans HP.out
      rw [HR2.out] at HSC HP2
      go_wp2_with (go_at_call 85; (try simp only [e1]); (with_reducible refine HSC.out.mono ?_); rintro e w2 ⟨rfl, h2, ht2⟩; have HS2 := Lib.hid h2; have HT2 := Lib.hid (HT.out.trans ht2 (fun _ q => .inl q)); clear h2 ht2)
      go_end0
      exact ⟨rfl, HS2.out, HP2.out, HT2.out⟩
    · have t1 : ((i : Int) != (j : Int)) = true := by rw [bne_iff_ne]; omega
      have t2 : decide ((j : Int) < (i : Int)) = true := by simp; omega
      have t3 : decide (j < i) = true := by simp; omega
      have e1 : (m : Int) - (i : Int) = ((m - i : Nat) : Int) := by omega
      have HSC := Lib.hid (HSR.out (m - i) m j f wr HS.out (by omega) (by omega))
      have HR2 : Hid (roF (swR f (m - i) m j) (m - (i - j)) m (m + j) = roF f0 a m b) := by show _ = _; rw [← roF_left f him hlt]; exact HR.out
      have HP2 : Hid ((asL (swR f (m - i) m j) n).Perm (asL f0 n)) := (asL_swR (by omega) (by omega)).trans HP.out
      go_wp2_with (go_at_call 85; (try simp only [e1]); (with_reducible refine HSC.out.mono ?_); rintro e w2 ⟨rfl, h2, ht2⟩; have HS2 := Lib.hid h2; have HT2 := Lib.hid (HT.out.trans ht2 (fun _ q => .inl q)); clear h2 ht2)
      go_roundw
      case rel => exact ⟨i - j, j, _, by omega, hj, by omega, hjb, congrArg (Value.int .i64) (by omega), rfl, HS2, HR2, HP2, HT2⟩
      case measure => simp [intOf]; omega
/-- What a part of a sort leaves: the same candidates, in order between a and b. -/
def SyR (lt : Cd → Cd → Bool) (g n a b : Nat) (f : Nat → Cd) (w : World) (e : Ending) (w' : World) : Prop := e = .returned (.tuple #[]) ∧ ∃ f', HdC w' g n f' ∧ Into f f' a b ∧ (asL f' n).Perm (asL f n) ∧ Srt (leC lt) f' a b ∧ Tch (fun k => k = g) w w'
set_option maxRecDepth 100000 in
set_option maxHeartbeats 8000000 in
theorem sy_ins (lt : Cd → Cd → Bool) (hc : CmpOk lt) (g n a b : Nat) (f0 : Nat → Cd) (w : World) (h : HdC w g n f0) (hab : a ≤ b) (hbn : b ≤ n) (hn : n ≤ 1048576) :
    Calls Try.prog 81 #[.slice (some ⟨g, 0, none⟩) n n, .int .i64 (a : Nat), .int .i64 (b : Nat), fvC] w (SyR lt g n a b f0 w) := by
  have HH := Lib.hid h
  have HC := Lib.hid hc
  clear h hc
  unfold fvC
  have e1 : wrap64 ((a : Int) + 1) = ((a + 1 : Nat) : Int) := by unfold wrap64; omega
  go_enter Try.func81, Try.ntmps81
  go_upto_region 1 with fail
  (try simp only [e1])
  clear e1
  go_wp2_with fail
  go_loopw [8, 9] (fun s8 _ wr => ∃ (i : Nat) (f : Nat → Cd), a + 1 ≤ i ∧ i ≤ max b (a + 1) ∧ s8 = .int .i64 i ∧ Hid (HdC wr g n f) ∧ Hid (Into f0 f a b) ∧ Hid ((asL f n).Perm (asL f0 n)) ∧ Hid (Srt (leC lt) f a i) ∧ Hid (Tch (fun k => k = g) w wr)) (fun s8 _ _ => b - (intOf s8).toNat)
  case atStart => exact ⟨a + 1, f0, Nat.le_refl _, by omega, rfl, HH, Into.refl _ _ _, List.Perm.refl _, Srt.one _ (Nat.le_refl _), Tch.refl _ _⟩
  case round =>
    obtain ⟨i, f, hi1, hi2, rfl, HS, HI, HP, HO, HT⟩ := hrel
    by_cases hlt : i < b
    · go_upto_region 4 with fail
      obtain ⟨wo, rfl⟩ : ∃ wo : World, wo = wr := ⟨_, rfl⟩
      have HJ0 : Hid (InsI (leC lt) f a i i) := InsI.start HO.out
      have HTB : Hid (Tch (fun k => k = g) w wo) := HT.out
      clear HO HT
      go_loopw [9] (fun s9 wr => ∃ (j : Nat) (f : Nat → Cd), a ≤ j ∧ j ≤ i ∧ s9 = .int .i64 j ∧ Hid (HdC wr g n f) ∧ Hid (Into f0 f a b) ∧ Hid ((asL f n).Perm (asL f0 n)) ∧ Hid (InsI (leC lt) f a i j) ∧ Hid (Tch (fun k => k = g) w wr)) (fun s9 _ => (intOf s9).toNat)
      case atStart => exact ⟨i, f, by omega, Nat.le_refl _, rfl, HS, HI, HP, HJ0, HTB⟩
      case round =>
        clear HS HI HP HJ0 HTB
        obtain ⟨j, f, hj1, hj2, rfl, HS, HI, HP, HJ, HT⟩ := hrel
        by_cases hj0 : j = a
        · subst hj0
          have TG := Lib.hid (show decide (((j : Nat) : Int) < ((j : Nat) : Int)) = false by simp)
          have HO2 : Hid (Srt (leC lt) f j (i + 1)) := HJ.out.stop HC.out.tr' (.inl rfl)
          go_upto_region 4 with fail
          refine wp_region_held_drew (S := fun _ => True) (by kernel_rfl) trivial (fun hH => ?_)
          obtain ⟨W, hW⟩ : ∃ q, wr.drew = q := ⟨_, rfl⟩
          have HB : Hid (Below wr.heap.size wr W) := by show Below _ _ _; rw [← hW]; exact below_drewN (Below.refl _ wr) 1
          rw [hW] at ⊢
          clear hW
          refine wpAnyH_take (i := 0) (v := .int .i64 ((j : Nat) : Int)) rfl (by kernel_rfl) (by kernel_rfl) (by kernel_rfl) (fun _ _ _ h => h) (.inl ⟨by rfl, fun _ _ => by kernel_rfl⟩) trivial ?_
          (try simp only [List.getElem_toArray, List.getElem_cons_zero, Act.put, List.setIfInBounds_toArray, List.set_cons_zero, List.set_cons_succ])
          refine wpAnyH_take (i := 1) (v := .int .i64 ((j : Nat) : Int)) rfl (by kernel_rfl) (by kernel_rfl) (by kernel_rfl) (fun _ _ _ h => h) (.inl ⟨by rfl, fun _ _ => by kernel_rfl⟩) trivial ?_
          (try simp only [List.getElem_toArray, List.getElem_cons_zero, List.getElem_cons_succ, Act.put, List.setIfInBounds_toArray, List.set_cons_zero, List.set_cons_succ])
          refine wpAnyH_take (i := 2) (v := .bool false) rfl (by kernel_rfl) (by kernel_rfl) (by kernel_rfl) (fun _ _ _ h => h) (yieldsIf_gtrS TG.out (by rfl) _ _ rfl rfl rfl) trivial ?_
          (try simp only [List.getElem_toArray, List.getElem_cons_zero, List.getElem_cons_succ, Act.put, List.setIfInBounds_toArray, List.set_cons_zero, List.set_cons_succ])
          refine wpAnyH_take (i := 3) (v := .bool false) rfl (by kernel_rfl) (by kernel_rfl) (by kernel_rfl) (fun _ _ _ h => h) (.inl ⟨by rfl, fun _ _ => by kernel_rfl⟩) trivial ?_
          (try simp only [List.getElem_toArray, List.getElem_cons_zero, List.getElem_cons_succ, Act.put, List.setIfInBounds_toArray, List.set_cons_zero, List.set_cons_succ])
          refine wpAnyH_take (i := 4) (v := undef) rfl (by kernel_rfl) (by kernel_rfl) (by kernel_rfl) (fun _ _ _ h => h) (.inr ⟨by rfl, rfl⟩) trivial ?_
          (try simp only [List.getElem_toArray, List.getElem_cons_zero, List.getElem_cons_succ, Act.put, List.setIfInBounds_toArray, List.set_cons_zero, List.set_cons_succ])
          refine wpAnyH_take (i := 5) (v := undef) rfl (by kernel_rfl) (by kernel_rfl) (by kernel_rfl) (fun _ _ _ h => h) (.inr ⟨by rfl, rfl⟩) trivial ?_
          (try simp only [List.getElem_toArray, List.getElem_cons_zero, List.getElem_cons_succ, Act.put, List.setIfInBounds_toArray, List.set_cons_zero, List.set_cons_succ])
          refine wpAnyH_take (i := 6) (v := undef) rfl (by kernel_rfl) (by kernel_rfl) (by kernel_rfl) (fun _ _ _ h => h) (.inr ⟨by rfl, rfl⟩) trivial ?_
          (try simp only [List.getElem_toArray, List.getElem_cons_zero, List.getElem_cons_succ, Act.put, List.setIfInBounds_toArray, List.set_cons_zero, List.set_cons_succ])
          refine wpAnyH_take (i := 7) (v := undef) rfl (by kernel_rfl) (by kernel_rfl) (by kernel_rfl) (fun _ _ _ h => h) (.inr ⟨by rfl, rfl⟩) trivial ?_
          (try simp only [List.getElem_toArray, List.getElem_cons_zero, List.getElem_cons_succ, Act.put, List.setIfInBounds_toArray, List.set_cons_zero, List.set_cons_succ])
          refine wpAnyH_take (i := 8) (v := undef) rfl (by kernel_rfl) (by kernel_rfl) (by kernel_rfl) (fun _ _ _ h => h) (.inr ⟨by rfl, rfl⟩) trivial ?_
          (try simp only [List.getElem_toArray, List.getElem_cons_zero, List.getElem_cons_succ, Act.put, List.setIfInBounds_toArray, List.set_cons_zero, List.set_cons_succ])
          refine wpAnyH_take (i := 9) (v := undef) rfl (by kernel_rfl) (by kernel_rfl) (by kernel_rfl) (fun _ _ _ h => h) (.inr ⟨by rfl, rfl⟩) trivial ?_
          (try simp only [List.getElem_toArray, List.getElem_cons_zero, List.getElem_cons_succ, Act.put, List.setIfInBounds_toArray, List.set_cons_zero, List.set_cons_succ])
          refine wpAnyH_take (i := 10) (v := undef) rfl (by kernel_rfl) (by kernel_rfl) (by kernel_rfl) (fun _ _ _ h => h) (.inr ⟨by rfl, rfl⟩) trivial ?_
          (try simp only [List.getElem_toArray, List.getElem_cons_zero, List.getElem_cons_succ, Act.put, List.setIfInBounds_toArray, List.set_cons_zero, List.set_cons_succ])
          refine wpAnyH_take (i := 11) (v := undef) rfl (by kernel_rfl) (by kernel_rfl) (by kernel_rfl) (fun _ _ _ h => h) (.inr ⟨by rfl, rfl⟩) trivial ?_
          (try simp only [List.getElem_toArray, List.getElem_cons_zero, List.getElem_cons_succ, Act.put, List.setIfInBounds_toArray, List.set_cons_zero, List.set_cons_succ])
          refine wpAnyH_take (i := 12) (v := undef) rfl (by kernel_rfl) (by kernel_rfl) (by kernel_rfl) (fun _ _ _ h => h) (.inr ⟨by rfl, rfl⟩) trivial ?_
          (try simp only [List.getElem_toArray, List.getElem_cons_zero, List.getElem_cons_succ, Act.put, List.setIfInBounds_toArray, List.set_cons_zero, List.set_cons_succ])
          refine wpAnyH_take (i := 13) (v := undef) rfl (by kernel_rfl) (by kernel_rfl) (by kernel_rfl) (fun _ _ _ h => h) (.inr ⟨by rfl, rfl⟩) trivial ?_
          (try simp only [List.getElem_toArray, List.getElem_cons_zero, List.getElem_cons_succ, Act.put, List.setIfInBounds_toArray, List.set_cons_zero, List.set_cons_succ])
          refine wpAnyH_take (i := 14) (v := undef) rfl (by kernel_rfl) (by kernel_rfl) (by kernel_rfl) (fun _ _ _ h => h) (.inr ⟨by rfl, rfl⟩) trivial ?_
          (try simp only [List.getElem_toArray, List.getElem_cons_zero, List.getElem_cons_succ, Act.put, List.setIfInBounds_toArray, List.set_cons_zero, List.set_cons_succ])
          refine wpAnyH_take (i := 15) (v := undef) rfl (by kernel_rfl) (by kernel_rfl) (by kernel_rfl) (fun _ _ _ h => h) (.inr ⟨by rfl, rfl⟩) trivial ?_
          (try simp only [List.getElem_toArray, List.getElem_cons_zero, List.getElem_cons_succ, Act.put, List.setIfInBounds_toArray, List.set_cons_zero, List.set_cons_succ])
          refine wpAnyH_take (i := 16) (v := .bool false) rfl (by kernel_rfl) (by kernel_rfl) (by kernel_rfl) (fun _ _ _ h => h) (.inl ⟨by rfl, fun _ _ => by kernel_rfl⟩) trivial ?_
          (try simp only [List.getElem_toArray, List.getElem_cons_zero, List.getElem_cons_succ, Act.put, List.setIfInBounds_toArray, List.set_cons_zero, List.set_cons_succ])
          refine wpAnyH_done (by kernel_rfl) ?_ _
          clear hH
          go_wp2_with fail
          go_roundw
          case rel => exact ⟨i + 1, f, by omega, by omega, by go_num, Lib.hid (HS.out.bel HB.out), HI, HP, HO2, Lib.hid (HT.out.trans (Tch.of_below HB.out) (fun _ q => .inl q))⟩
          case measure => simp [intOf]; omega
        · obtain ⟨p, hp⟩ : ∃ p, j - 1 = p := ⟨_, rfl⟩
          have TG := Lib.hid (show decide (((a : Nat) : Int) < ((j : Nat) : Int)) = true by simp; omega)
          have EP := Lib.hid (show IntKind.i64.wrap (((j : Nat) : Int) - 1) = ((p : Nat) : Int) from wi_nat (by omega) (by omega))
          have HJN : Hid (j < n) := by show _ < _; omega
          have HPN : Hid (p < n) := by show _ < _; omega
          cases hl : lt (f j) (f p) with
          | false =>
            have LT := Lib.hid hl
            have HO2 : Hid (Srt (leC lt) f a (i + 1)) := HJ.out.stop HC.out.tr' (.inr ⟨by omega, by rw [hp]; exact hl⟩)
            clear hl
            go_upto_region 4 with fail
            refine wp_region_held_drew (S := fun w' => Below wr.heap.size wr w') (by kernel_rfl) (below_drewN (Below.refl _ _) 1) (fun hH => ?_)
            refine wpAnyH_take (i := 0) (v := .int .i64 ((j : Nat) : Int)) rfl (by kernel_rfl) (by kernel_rfl) (by kernel_rfl) (fun _ _ _ h => h) (.inl ⟨by rfl, fun _ _ => by kernel_rfl⟩) hH ?_
            (try simp only [List.getElem_toArray, List.getElem_cons_zero, Act.put, List.setIfInBounds_toArray, List.set_cons_zero, List.set_cons_succ])
            refine wpAnyH_take (i := 1) (v := .int .i64 ((a : Nat) : Int)) rfl (by kernel_rfl) (by kernel_rfl) (by kernel_rfl) (fun _ _ _ h => h) (.inl ⟨by rfl, fun _ _ => by kernel_rfl⟩) hH ?_
            (try simp only [List.getElem_toArray, List.getElem_cons_zero, List.getElem_cons_succ, Act.put, List.setIfInBounds_toArray, List.set_cons_zero, List.set_cons_succ])
            refine wpAnyH_take (i := 2) (v := .bool true) rfl (by kernel_rfl) (by kernel_rfl) (by kernel_rfl) (fun _ _ _ h => h) (yieldsIf_gtrS TG.out (by rfl) _ _ rfl rfl rfl) hH ?_
            (try simp only [List.getElem_toArray, List.getElem_cons_zero, List.getElem_cons_succ, Act.put, List.setIfInBounds_toArray, List.set_cons_zero, List.set_cons_succ])
            refine wpAnyH_take (i := 3) (v := .bool true) rfl (by kernel_rfl) (by kernel_rfl) (by kernel_rfl) (fun _ _ _ h => h) (.inl ⟨by rfl, fun _ _ => by kernel_rfl⟩) hH ?_
            (try simp only [List.getElem_toArray, List.getElem_cons_zero, List.getElem_cons_succ, Act.put, List.setIfInBounds_toArray, List.set_cons_zero, List.set_cons_succ])
            refine wpAnyH_take (i := 4) (v := .func (.func 63) #[] #[]) rfl (by kernel_rfl) (by kernel_rfl) (by kernel_rfl) (fun _ _ _ h => h) (.inl ⟨by rfl, fun _ _ => by kernel_rfl⟩) hH ?_
            (try simp only [List.getElem_toArray, List.getElem_cons_zero, List.getElem_cons_succ, Act.put, List.setIfInBounds_toArray, List.set_cons_zero, List.set_cons_succ])
            refine wpAnyH_take (i := 5) (v := .slice (some ⟨g, 0, none⟩) n n) rfl (by kernel_rfl) (by kernel_rfl) (by kernel_rfl) (fun _ _ _ h => h) (.inl ⟨by rfl, fun _ _ => by kernel_rfl⟩) hH ?_
            (try simp only [List.getElem_toArray, List.getElem_cons_zero, List.getElem_cons_succ, Act.put, List.setIfInBounds_toArray, List.set_cons_zero, List.set_cons_succ])
            refine wpAnyH_take (i := 6) (v := .int .i64 ((j : Nat) : Int)) rfl (by kernel_rfl) (by kernel_rfl) (by kernel_rfl) (fun _ _ _ h => h) (.inl ⟨by rfl, fun _ _ => by kernel_rfl⟩) hH ?_
            (try simp only [List.getElem_toArray, List.getElem_cons_zero, List.getElem_cons_succ, Act.put, List.setIfInBounds_toArray, List.set_cons_zero, List.set_cons_succ])
            refine wpAnyH_take (i := 7) (v := .pointer (some ⟨g, 0 + j * 4, none⟩)) rfl (by kernel_rfl) (by kernel_rfl) (by kernel_rfl) (fun _ _ _ h => h) (yieldsIf_indexC (k := j) Try.underlying71 szCd (by rfl) _ _ rfl rfl rfl HJN.out) hH ?_
            (try simp only [List.getElem_toArray, List.getElem_cons_zero, List.getElem_cons_succ, Act.put, List.setIfInBounds_toArray, List.set_cons_zero, List.set_cons_succ])
            refine wpAnyH_take (i := 8) (v := (f j).v) rfl (by kernel_rfl) (by kernel_rfl) (by kernel_rfl) (fun _ _ _ h => h) (yieldsIf_loadP (by rfl) _ rfl rfl (fun _ s => (HS.out.bel s).load HJN.out)) hH ?_
            (try simp only [List.getElem_toArray, List.getElem_cons_zero, List.getElem_cons_succ, Act.put, List.setIfInBounds_toArray, List.set_cons_zero, List.set_cons_succ])
            refine wpAnyH_take (i := 9) (v := .slice (some ⟨g, 0, none⟩) n n) rfl (by kernel_rfl) (by kernel_rfl) (by kernel_rfl) (fun _ _ _ h => h) (.inl ⟨by rfl, fun _ _ => by kernel_rfl⟩) hH ?_
            (try simp only [List.getElem_toArray, List.getElem_cons_zero, List.getElem_cons_succ, Act.put, List.setIfInBounds_toArray, List.set_cons_zero, List.set_cons_succ])
            refine wpAnyH_take (i := 10) (v := .int .i64 ((j : Nat) : Int)) rfl (by kernel_rfl) (by kernel_rfl) (by kernel_rfl) (fun _ _ _ h => h) (.inl ⟨by rfl, fun _ _ => by kernel_rfl⟩) hH ?_
            (try simp only [List.getElem_toArray, List.getElem_cons_zero, List.getElem_cons_succ, Act.put, List.setIfInBounds_toArray, List.set_cons_zero, List.set_cons_succ])
            refine wpAnyH_take (i := 11) (v := .int .i64 ((p : Nat) : Int)) rfl (by kernel_rfl) (by kernel_rfl) (by kernel_rfl) (fun _ _ _ h => h) (yieldsIf_subS EP.out (by rfl) _ _ rfl rfl rfl) hH ?_
            (try simp only [List.getElem_toArray, List.getElem_cons_zero, List.getElem_cons_succ, Act.put, List.setIfInBounds_toArray, List.set_cons_zero, List.set_cons_succ])
            refine wpAnyH_take (i := 12) (v := .pointer (some ⟨g, 0 + p * 4, none⟩)) rfl (by kernel_rfl) (by kernel_rfl) (by kernel_rfl) (fun _ _ _ h => h) (yieldsIf_indexC (k := p) Try.underlying71 szCd (by rfl) _ _ rfl rfl rfl HPN.out) hH ?_
            (try simp only [List.getElem_toArray, List.getElem_cons_zero, List.getElem_cons_succ, Act.put, List.setIfInBounds_toArray, List.set_cons_zero, List.set_cons_succ])
            refine wpAnyH_take (i := 13) (v := (f p).v) rfl (by kernel_rfl) (by kernel_rfl) (by kernel_rfl) (fun _ _ _ h => h) (yieldsIf_loadP (by rfl) _ rfl rfl (fun _ s => (HS.out.bel s).load HPN.out)) hH ?_
            (try simp only [List.getElem_toArray, List.getElem_cons_zero, List.getElem_cons_succ, Act.put, List.setIfInBounds_toArray, List.set_cons_zero, List.set_cons_succ])
            refine wpAnyH_call 14 63 #[(f j).v, (f p).v] _ (by kernel_rfl) (by rfl) (by kernel_rfl) (by kernel_rfl) (HC.out.cmp _ _ _) ?_
            rintro e Z1 ⟨r, rfl, hr, hb1⟩
            have h1 : Below wr.heap.size wr Z1 := hH.trans (hb1.mono hH.size)
            rw [LT.out] at hr
            refine ⟨_, rfl, h1, ?_⟩
            (try simp only [List.getElem_toArray, List.getElem_cons_zero, List.getElem_cons_succ, Act.put, List.setIfInBounds_toArray, List.set_cons_zero, List.set_cons_succ])
            refine wpAnyH_take (i := 15) (v := .bool false) rfl (by kernel_rfl) (by kernel_rfl) (by kernel_rfl) (fun _ _ _ h => h) (yieldsIf_lssS hr (by rfl) _ _ rfl rfl rfl) h1 ?_
            (try simp only [List.getElem_toArray, List.getElem_cons_zero, List.getElem_cons_succ, Act.put, List.setIfInBounds_toArray, List.set_cons_zero, List.set_cons_succ])
            refine wpAnyH_take (i := 16) (v := .bool false) rfl (by kernel_rfl) (by kernel_rfl) (by kernel_rfl) (fun _ _ _ h => h) (.inl ⟨by rfl, fun _ _ => by kernel_rfl⟩) h1 ?_
            (try simp only [List.getElem_toArray, List.getElem_cons_zero, List.getElem_cons_succ, Act.put, List.setIfInBounds_toArray, List.set_cons_zero, List.set_cons_succ])
            refine wpAnyH_done (by kernel_rfl) ?_ _
            have H1 := Lib.hid h1
            clear hH h1 hb1 hr
            have HB : Hid (Below wr.heap.size wr Z1) := H1.out
            go_wp2_with fail
            go_roundw
            case rel => exact ⟨i + 1, f, by omega, by omega, by go_num, Lib.hid (HS.out.bel HB.out), HI, HP, HO2, Lib.hid (HT.out.trans (Tch.of_below HB.out) (fun _ q => .inl q))⟩
            case measure => simp [intOf]; omega
          | true =>
            have LT := Lib.hid hl
            have HJ2 : Hid (InsI (leC lt) (swF f j p) a i p) := by
              show InsI _ _ _ _ _
              rw [← hp]
              exact HJ.out.step (by omega) hj2 (by rw [hp]; exact HC.out.asy _ _ hl)
            have HI2 : Hid (Into f0 (swF f j p) a b) := HI.out.trans (Into.sw (by omega) (by omega) (by omega) (by omega))
            have HP2 : Hid ((asL (swF f j p) n).Perm (asL f0 n)) := (asL_sw HJN.out HPN.out).trans HP.out
            have hpa : a ≤ p := by omega
            have hpi : p ≤ i := by omega
            have hpj : p < j := by omega
            have EW : Hid (((j : Nat) : Int) - 1 = ((p : Nat) : Int)) := by show _ = _; omega
            clear hl HJ HI HP hp
            go_upto_region 4 with fail
            refine wp_region_held_drew (S := fun w' => Below wr.heap.size wr w') (by kernel_rfl) (below_drewN (Below.refl _ _) 1) (fun hH => ?_)
            refine wpAnyH_take (i := 0) (v := .int .i64 ((j : Nat) : Int)) rfl (by kernel_rfl) (by kernel_rfl) (by kernel_rfl) (fun _ _ _ h => h) (.inl ⟨by rfl, fun _ _ => by kernel_rfl⟩) hH ?_
            (try simp only [List.getElem_toArray, List.getElem_cons_zero, Act.put, List.setIfInBounds_toArray, List.set_cons_zero, List.set_cons_succ])
            refine wpAnyH_take (i := 1) (v := .int .i64 ((a : Nat) : Int)) rfl (by kernel_rfl) (by kernel_rfl) (by kernel_rfl) (fun _ _ _ h => h) (.inl ⟨by rfl, fun _ _ => by kernel_rfl⟩) hH ?_
            (try simp only [List.getElem_toArray, List.getElem_cons_zero, List.getElem_cons_succ, Act.put, List.setIfInBounds_toArray, List.set_cons_zero, List.set_cons_succ])
            refine wpAnyH_take (i := 2) (v := .bool true) rfl (by kernel_rfl) (by kernel_rfl) (by kernel_rfl) (fun _ _ _ h => h) (yieldsIf_gtrS TG.out (by rfl) _ _ rfl rfl rfl) hH ?_
            (try simp only [List.getElem_toArray, List.getElem_cons_zero, List.getElem_cons_succ, Act.put, List.setIfInBounds_toArray, List.set_cons_zero, List.set_cons_succ])
            refine wpAnyH_take (i := 3) (v := .bool true) rfl (by kernel_rfl) (by kernel_rfl) (by kernel_rfl) (fun _ _ _ h => h) (.inl ⟨by rfl, fun _ _ => by kernel_rfl⟩) hH ?_
            (try simp only [List.getElem_toArray, List.getElem_cons_zero, List.getElem_cons_succ, Act.put, List.setIfInBounds_toArray, List.set_cons_zero, List.set_cons_succ])
            refine wpAnyH_take (i := 4) (v := .func (.func 63) #[] #[]) rfl (by kernel_rfl) (by kernel_rfl) (by kernel_rfl) (fun _ _ _ h => h) (.inl ⟨by rfl, fun _ _ => by kernel_rfl⟩) hH ?_
            (try simp only [List.getElem_toArray, List.getElem_cons_zero, List.getElem_cons_succ, Act.put, List.setIfInBounds_toArray, List.set_cons_zero, List.set_cons_succ])
            refine wpAnyH_take (i := 5) (v := .slice (some ⟨g, 0, none⟩) n n) rfl (by kernel_rfl) (by kernel_rfl) (by kernel_rfl) (fun _ _ _ h => h) (.inl ⟨by rfl, fun _ _ => by kernel_rfl⟩) hH ?_
            (try simp only [List.getElem_toArray, List.getElem_cons_zero, List.getElem_cons_succ, Act.put, List.setIfInBounds_toArray, List.set_cons_zero, List.set_cons_succ])
            refine wpAnyH_take (i := 6) (v := .int .i64 ((j : Nat) : Int)) rfl (by kernel_rfl) (by kernel_rfl) (by kernel_rfl) (fun _ _ _ h => h) (.inl ⟨by rfl, fun _ _ => by kernel_rfl⟩) hH ?_
            (try simp only [List.getElem_toArray, List.getElem_cons_zero, List.getElem_cons_succ, Act.put, List.setIfInBounds_toArray, List.set_cons_zero, List.set_cons_succ])
            refine wpAnyH_take (i := 7) (v := .pointer (some ⟨g, 0 + j * 4, none⟩)) rfl (by kernel_rfl) (by kernel_rfl) (by kernel_rfl) (fun _ _ _ h => h) (yieldsIf_indexC (k := j) Try.underlying71 szCd (by rfl) _ _ rfl rfl rfl HJN.out) hH ?_
            (try simp only [List.getElem_toArray, List.getElem_cons_zero, List.getElem_cons_succ, Act.put, List.setIfInBounds_toArray, List.set_cons_zero, List.set_cons_succ])
            refine wpAnyH_take (i := 8) (v := (f j).v) rfl (by kernel_rfl) (by kernel_rfl) (by kernel_rfl) (fun _ _ _ h => h) (yieldsIf_loadP (by rfl) _ rfl rfl (fun _ s => (HS.out.bel s).load HJN.out)) hH ?_
            (try simp only [List.getElem_toArray, List.getElem_cons_zero, List.getElem_cons_succ, Act.put, List.setIfInBounds_toArray, List.set_cons_zero, List.set_cons_succ])
            refine wpAnyH_take (i := 9) (v := .slice (some ⟨g, 0, none⟩) n n) rfl (by kernel_rfl) (by kernel_rfl) (by kernel_rfl) (fun _ _ _ h => h) (.inl ⟨by rfl, fun _ _ => by kernel_rfl⟩) hH ?_
            (try simp only [List.getElem_toArray, List.getElem_cons_zero, List.getElem_cons_succ, Act.put, List.setIfInBounds_toArray, List.set_cons_zero, List.set_cons_succ])
            refine wpAnyH_take (i := 10) (v := .int .i64 ((j : Nat) : Int)) rfl (by kernel_rfl) (by kernel_rfl) (by kernel_rfl) (fun _ _ _ h => h) (.inl ⟨by rfl, fun _ _ => by kernel_rfl⟩) hH ?_
            (try simp only [List.getElem_toArray, List.getElem_cons_zero, List.getElem_cons_succ, Act.put, List.setIfInBounds_toArray, List.set_cons_zero, List.set_cons_succ])
            refine wpAnyH_take (i := 11) (v := .int .i64 ((p : Nat) : Int)) rfl (by kernel_rfl) (by kernel_rfl) (by kernel_rfl) (fun _ _ _ h => h) (yieldsIf_subS EP.out (by rfl) _ _ rfl rfl rfl) hH ?_
            (try simp only [List.getElem_toArray, List.getElem_cons_zero, List.getElem_cons_succ, Act.put, List.setIfInBounds_toArray, List.set_cons_zero, List.set_cons_succ])
            refine wpAnyH_take (i := 12) (v := .pointer (some ⟨g, 0 + p * 4, none⟩)) rfl (by kernel_rfl) (by kernel_rfl) (by kernel_rfl) (fun _ _ _ h => h) (yieldsIf_indexC (k := p) Try.underlying71 szCd (by rfl) _ _ rfl rfl rfl HPN.out) hH ?_
            (try simp only [List.getElem_toArray, List.getElem_cons_zero, List.getElem_cons_succ, Act.put, List.setIfInBounds_toArray, List.set_cons_zero, List.set_cons_succ])
            refine wpAnyH_take (i := 13) (v := (f p).v) rfl (by kernel_rfl) (by kernel_rfl) (by kernel_rfl) (fun _ _ _ h => h) (yieldsIf_loadP (by rfl) _ rfl rfl (fun _ s => (HS.out.bel s).load HPN.out)) hH ?_
            (try simp only [List.getElem_toArray, List.getElem_cons_zero, List.getElem_cons_succ, Act.put, List.setIfInBounds_toArray, List.set_cons_zero, List.set_cons_succ])
            refine wpAnyH_call 14 63 #[(f j).v, (f p).v] _ (by kernel_rfl) (by rfl) (by kernel_rfl) (by kernel_rfl) (HC.out.cmp _ _ _) ?_
            rintro e Z1 ⟨r, rfl, hr, hb1⟩
            have h1 : Below wr.heap.size wr Z1 := hH.trans (hb1.mono hH.size)
            rw [LT.out] at hr
            refine ⟨_, rfl, h1, ?_⟩
            (try simp only [List.getElem_toArray, List.getElem_cons_zero, List.getElem_cons_succ, Act.put, List.setIfInBounds_toArray, List.set_cons_zero, List.set_cons_succ])
            refine wpAnyH_take (i := 15) (v := .bool true) rfl (by kernel_rfl) (by kernel_rfl) (by kernel_rfl) (fun _ _ _ h => h) (yieldsIf_lssS hr (by rfl) _ _ rfl rfl rfl) h1 ?_
            (try simp only [List.getElem_toArray, List.getElem_cons_zero, List.getElem_cons_succ, Act.put, List.setIfInBounds_toArray, List.set_cons_zero, List.set_cons_succ])
            refine wpAnyH_take (i := 16) (v := .bool true) rfl (by kernel_rfl) (by kernel_rfl) (by kernel_rfl) (fun _ _ _ h => h) (.inl ⟨by rfl, fun _ _ => by kernel_rfl⟩) h1 ?_
            (try simp only [List.getElem_toArray, List.getElem_cons_zero, List.getElem_cons_succ, Act.put, List.setIfInBounds_toArray, List.set_cons_zero, List.set_cons_succ])
            refine wpAnyH_done (by kernel_rfl) ?_ _
            have H1 := Lib.hid h1
            clear hH h1 hb1 hr
            have HS1 := HS
            have HS : Hid (HdC Z1 g n f) := HS1.out.bel H1.out
            clear HS1
            go_upto_region 6 with fail
            refine wp_region_held_drew (S := fun w' => Tch (fun k => k = g) Z1 w') (by kernel_rfl) ((Tch.refl _ Z1).drewN 1) (fun hH => ?_)
            obtain ⟨W, hW⟩ : ∃ q, Z1.drew = q := ⟨_, rfl⟩
            have HSW : Hid (HdC W g n f) := by show HdC _ _ _ _; rw [← hW]; exact HS.out.bel (below_drewN (Below.refl _ Z1) 1)
            rw [hW] at hH ⊢
            clear hW
            refine wpAnyH_take (i := 0) (v := .slice (some ⟨g, 0, none⟩) n n) rfl (by kernel_rfl) (by kernel_rfl) (by kernel_rfl) (fun _ _ _ h => h) (.inl ⟨by rfl, fun _ _ => by kernel_rfl⟩) hH ?_
            (try simp only [List.getElem_toArray, List.getElem_cons_zero, Act.put, List.setIfInBounds_toArray, List.set_cons_zero, List.set_cons_succ])
            refine wpAnyH_take (i := 1) (v := .int .i64 ((j : Nat) : Int)) rfl (by kernel_rfl) (by kernel_rfl) (by kernel_rfl) (fun _ _ _ h => h) (.inl ⟨by rfl, fun _ _ => by kernel_rfl⟩) hH ?_
            (try simp only [List.getElem_toArray, List.getElem_cons_zero, List.getElem_cons_succ, Act.put, List.setIfInBounds_toArray, List.set_cons_zero, List.set_cons_succ])
            refine wpAnyH_take (i := 2) (v := .slice (some ⟨g, 0, none⟩) n n) rfl (by kernel_rfl) (by kernel_rfl) (by kernel_rfl) (fun _ _ _ h => h) (.inl ⟨by rfl, fun _ _ => by kernel_rfl⟩) hH ?_
            (try simp only [List.getElem_toArray, List.getElem_cons_zero, List.getElem_cons_succ, Act.put, List.setIfInBounds_toArray, List.set_cons_zero, List.set_cons_succ])
            refine wpAnyH_take (i := 3) (v := .int .i64 ((j : Nat) : Int)) rfl (by kernel_rfl) (by kernel_rfl) (by kernel_rfl) (fun _ _ _ h => h) (.inl ⟨by rfl, fun _ _ => by kernel_rfl⟩) hH ?_
            (try simp only [List.getElem_toArray, List.getElem_cons_zero, List.getElem_cons_succ, Act.put, List.setIfInBounds_toArray, List.set_cons_zero, List.set_cons_succ])
            refine wpAnyH_take (i := 4) (v := .int .i64 ((p : Nat) : Int)) rfl (by kernel_rfl) (by kernel_rfl) (by kernel_rfl) (fun _ _ _ h => h) (yieldsIf_subS EP.out (by rfl) _ _ rfl rfl rfl) hH ?_
            (try simp only [List.getElem_toArray, List.getElem_cons_zero, List.getElem_cons_succ, Act.put, List.setIfInBounds_toArray, List.set_cons_zero, List.set_cons_succ])
            refine wpAnyH_take (i := 5) (v := .slice (some ⟨g, 0, none⟩) n n) rfl (by kernel_rfl) (by kernel_rfl) (by kernel_rfl) (fun _ _ _ h => h) (.inl ⟨by rfl, fun _ _ => by kernel_rfl⟩) hH ?_
            (try simp only [List.getElem_toArray, List.getElem_cons_zero, List.getElem_cons_succ, Act.put, List.setIfInBounds_toArray, List.set_cons_zero, List.set_cons_succ])
            refine wpAnyH_take (i := 6) (v := .int .i64 ((j : Nat) : Int)) rfl (by kernel_rfl) (by kernel_rfl) (by kernel_rfl) (fun _ _ _ h => h) (.inl ⟨by rfl, fun _ _ => by kernel_rfl⟩) hH ?_
            (try simp only [List.getElem_toArray, List.getElem_cons_zero, List.getElem_cons_succ, Act.put, List.setIfInBounds_toArray, List.set_cons_zero, List.set_cons_succ])
            refine wpAnyH_take (i := 7) (v := .int .i64 ((p : Nat) : Int)) rfl (by kernel_rfl) (by kernel_rfl) (by kernel_rfl) (fun _ _ _ h => h) (yieldsIf_subS EP.out (by rfl) _ _ rfl rfl rfl) hH ?_
            (try simp only [List.getElem_toArray, List.getElem_cons_zero, List.getElem_cons_succ, Act.put, List.setIfInBounds_toArray, List.set_cons_zero, List.set_cons_succ])
            refine wpAnyH_take (i := 8) (v := .pointer (some ⟨g, 0 + p * 4, none⟩)) rfl (by kernel_rfl) (by kernel_rfl) (by kernel_rfl) (fun _ _ _ h => h) (yieldsIf_indexC (k := p) Try.underlying71 szCd (by rfl) _ _ rfl rfl rfl HPN.out) hH ?_
            (try simp only [List.getElem_toArray, List.getElem_cons_zero, List.getElem_cons_succ, Act.put, List.setIfInBounds_toArray, List.set_cons_zero, List.set_cons_succ])
            refine wpAnyH_take (i := 10) (v := .slice (some ⟨g, 0, none⟩) n n) rfl (by kernel_rfl) (by kernel_rfl) (by kernel_rfl) (fun _ _ _ h => h) (.inl ⟨by rfl, fun _ _ => by kernel_rfl⟩) hH ?_
            (try simp only [List.getElem_toArray, List.getElem_cons_zero, List.getElem_cons_succ, Act.put, List.setIfInBounds_toArray, List.set_cons_zero, List.set_cons_succ])
            refine wpAnyH_take (i := 11) (v := .int .i64 ((j : Nat) : Int)) rfl (by kernel_rfl) (by kernel_rfl) (by kernel_rfl) (fun _ _ _ h => h) (.inl ⟨by rfl, fun _ _ => by kernel_rfl⟩) hH ?_
            (try simp only [List.getElem_toArray, List.getElem_cons_zero, List.getElem_cons_succ, Act.put, List.setIfInBounds_toArray, List.set_cons_zero, List.set_cons_succ])
            refine wpAnyH_take (i := 12) (v := .pointer (some ⟨g, 0 + j * 4, none⟩)) rfl (by kernel_rfl) (by kernel_rfl) (by kernel_rfl) (fun _ _ _ h => h) (yieldsIf_indexC (k := j) Try.underlying71 szCd (by rfl) _ _ rfl rfl rfl HJN.out) hH ?_
            (try simp only [List.getElem_toArray, List.getElem_cons_zero, List.getElem_cons_succ, Act.put, List.setIfInBounds_toArray, List.set_cons_zero, List.set_cons_succ])
            refine wpAnyH_all (rs := [9, 13]) (by kernel_rfl) (by simp) (fun i9 hi9 => ?_)
            rcases (by simpa using hi9 : i9 = 9 ∨ i9 = 13) with rfl | rfl
            · refine wpOp_value (w' := W) (f p).v (by rfl) (by kernel_rfl) (exec_loadK (by rfl) (by rfl) (HSW.out.load HPN.out)) ⟨hH, ?_⟩
              (try simp only [List.getElem_toArray, List.getElem_cons_zero, List.getElem_cons_succ, Act.put, List.setIfInBounds_toArray, List.set_cons_zero, List.set_cons_succ])
              refine wpAnyH_value 13 (f j).v (by kernel_rfl) (by rfl) (by kernel_rfl) (exec_loadK (by rfl) (by rfl) (HSW.out.load HJN.out)) hH ?_
              (try simp only [List.getElem_toArray, List.getElem_cons_zero, List.getElem_cons_succ, Act.put, List.setIfInBounds_toArray, List.set_cons_zero, List.set_cons_succ])
              refine wpAnyH_take (i := 14) (v := .pointer (some ⟨g, 0 + j * 4, none⟩)) rfl (by kernel_rfl) (by kernel_rfl) (by kernel_rfl) (fun _ _ _ h => h) (yieldsIf_indexC (k := j) Try.underlying71 szCd (by rfl) _ _ rfl rfl rfl HJN.out) hH ?_
              (try simp only [List.getElem_toArray, List.getElem_cons_zero, List.getElem_cons_succ, Act.put, List.setIfInBounds_toArray, List.set_cons_zero, List.set_cons_succ])
              have hH3 : Tch (fun k => k = g) Z1 (W.setCells g (j * 4) (f p).cells.toList) := Tch.setCells (S := fun k => k = g) rfl _ _ _ hH
              refine wpAnyH_store 15 _ _ _ (by kernel_rfl) (by rfl) (by kernel_rfl) (by rfl) (by rfl) (by rfl) (HSW.out.store (f p) HJN.out) hH3 ?_
              (try simp only [List.getElem_toArray, List.getElem_cons_zero, List.getElem_cons_succ, Act.put])
              refine wpAnyH_take (i := 16) (v := .pointer (some ⟨g, 0 + p * 4, none⟩)) rfl (by kernel_rfl) (by kernel_rfl) (by kernel_rfl) (fun _ _ _ h => h) (yieldsIf_indexC (k := p) Try.underlying71 szCd (by rfl) _ _ rfl rfl rfl HPN.out) hH3 ?_
              (try simp only [List.getElem_toArray, List.getElem_cons_zero, List.getElem_cons_succ, Act.put, List.setIfInBounds_toArray, List.set_cons_zero, List.set_cons_succ])
              refine wpAnyH_store 17 _ _ _ (by kernel_rfl) (by rfl) (by kernel_rfl) (by rfl) (by rfl) (by rfl) ((HSW.out.set (f p) HJN.out).store (f j) HPN.out) (Tch.setCells (S := fun k => k = g) rfl _ _ _ hH3) ?_
              (try simp only [List.getElem_toArray, List.getElem_cons_zero, List.getElem_cons_succ, Act.put])
              refine wpAnyH_done (by kernel_rfl) ?_ _
              have HSV := Lib.hid (HSW.out.sw HJN.out HPN.out)
              have HTV : Hid (Tch (fun k => k = g) Z1 ((W.setCells g (j * 4) (f p).cells.toList).setCells g (p * 4) (f j).cells.toList)) := Tch.setCells (S := fun k => k = g) rfl ((f j).cells.toList) (p * 4) _ hH3
              clear hH hH3 HSW
              go_wp2_with fail
              go_roundw
              case rel => exact ⟨p, _, hpa, hpi, congrArg (Value.int .i64) EW.out, HSV, HI2, HP2, HJ2, Lib.hid ((HT.out.trans (Tch.of_below H1.out) (fun _ q => .inl q)).trans HTV.out (fun _ q => .inl q))⟩
              case measure => simp [intOf]; omega
            · refine wpOp_value (w' := W) (f j).v (by rfl) (by kernel_rfl) (exec_loadK (by rfl) (by rfl) (HSW.out.load HJN.out)) ⟨hH, ?_⟩
              (try simp only [List.getElem_toArray, List.getElem_cons_zero, List.getElem_cons_succ, Act.put, List.setIfInBounds_toArray, List.set_cons_zero, List.set_cons_succ])
              refine wpAnyH_value 9 (f p).v (by kernel_rfl) (by rfl) (by kernel_rfl) (exec_loadK (by rfl) (by rfl) (HSW.out.load HPN.out)) hH ?_
              (try simp only [List.getElem_toArray, List.getElem_cons_zero, List.getElem_cons_succ, Act.put, List.setIfInBounds_toArray, List.set_cons_zero, List.set_cons_succ])
              refine wpAnyH_take (i := 14) (v := .pointer (some ⟨g, 0 + j * 4, none⟩)) rfl (by kernel_rfl) (by kernel_rfl) (by kernel_rfl) (fun _ _ _ h => h) (yieldsIf_indexC (k := j) Try.underlying71 szCd (by rfl) _ _ rfl rfl rfl HJN.out) hH ?_
              (try simp only [List.getElem_toArray, List.getElem_cons_zero, List.getElem_cons_succ, Act.put, List.setIfInBounds_toArray, List.set_cons_zero, List.set_cons_succ])
              have hH3 : Tch (fun k => k = g) Z1 (W.setCells g (j * 4) (f p).cells.toList) := Tch.setCells (S := fun k => k = g) rfl _ _ _ hH
              refine wpAnyH_store 15 _ _ _ (by kernel_rfl) (by rfl) (by kernel_rfl) (by rfl) (by rfl) (by rfl) (HSW.out.store (f p) HJN.out) hH3 ?_
              (try simp only [List.getElem_toArray, List.getElem_cons_zero, List.getElem_cons_succ, Act.put])
              refine wpAnyH_take (i := 16) (v := .pointer (some ⟨g, 0 + p * 4, none⟩)) rfl (by kernel_rfl) (by kernel_rfl) (by kernel_rfl) (fun _ _ _ h => h) (yieldsIf_indexC (k := p) Try.underlying71 szCd (by rfl) _ _ rfl rfl rfl HPN.out) hH3 ?_
              (try simp only [List.getElem_toArray, List.getElem_cons_zero, List.getElem_cons_succ, Act.put, List.setIfInBounds_toArray, List.set_cons_zero, List.set_cons_succ])
              refine wpAnyH_store 17 _ _ _ (by kernel_rfl) (by rfl) (by kernel_rfl) (by rfl) (by rfl) (by rfl) ((HSW.out.set (f p) HJN.out).store (f j) HPN.out) (Tch.setCells (S := fun k => k = g) rfl _ _ _ hH3) ?_
              (try simp only [List.getElem_toArray, List.getElem_cons_zero, List.getElem_cons_succ, Act.put])
              refine wpAnyH_done (by kernel_rfl) ?_ _
              have HSV := Lib.hid (HSW.out.sw HJN.out HPN.out)
              have HTV : Hid (Tch (fun k => k = g) Z1 ((W.setCells g (j * 4) (f p).cells.toList).setCells g (p * 4) (f j).cells.toList)) := Tch.setCells (S := fun k => k = g) rfl ((f j).cells.toList) (p * 4) _ hH3
              clear hH hH3 HSW
              go_wp2_with fail
              go_roundw
              case rel => exact ⟨p, _, hpa, hpi, congrArg (Value.int .i64) EW.out, HSV, HI2, HP2, HJ2, Lib.hid ((HT.out.trans (Tch.of_below H1.out) (fun _ q => .inl q)).trans HTV.out (fun _ q => .inl q))⟩
              case measure => simp [intOf]; omega
    · have HF : Hid (SyR lt g n a b f0 w (.returned (.tuple #[])) wr) := ⟨rfl, f, HS.out, HI.out, HP.out, HO.out.sub (Nat.le_refl _) (by omega), HT.out⟩
      go_wp2_with fail
      go_end0
      exact HF.out
end Go.Proofs.Ytpcbfoddlpgdjaa
