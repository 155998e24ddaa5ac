/- Candidates in a row of the call's own: the stable sort of 40 at most. -/
import Derived.Test.YtpcbfoddlpgdjaaSyT
import Derived.WalkMore
namespace Go.Proofs.Ytpcbfoddlpgdjaa
open Go.RowKit
theorem sy_merge (lt : Cd → Cd → Bool) (hc : CmpOk lt) (g n : Nat) (hn : n ≤ 1048576) : ∀ (N a m b : Nat) (f : Nat → Cd) (W : World), b - a ≤ N → HdC W g n f → a < m → m < b → b ≤ n → Srt (leC lt) f a m → Srt (leC lt) f m b →
    Calls Try.prog 82 #[.slice (some ⟨g, 0, none⟩) n n, .int .i64 (a : Nat), .int .i64 (m : Nat), .int .i64 (b : Nat), fvC] W (SyR lt g n a b f W) := by
  intro N
  induction N with
  | zero => intro a m b f W h1 _ h2 h3; omega
  | succ N ih =>
    intro a m b f W h1 h h2 h3 h4 h5 h6
    by_cases q : m = a + 1
    · exact sy_m1 lt hc g n a m b f W h q h3 h4 hn h6
    · by_cases p : b = m + 1
      · exact sy_m2 lt hc g n a m b f W h (by omega) p h4 hn h5
      · exact sy_m3 lt hc g n a m b f W h (by omega) (by omega) h4 hn h5 h6 (fun a' m' b' f' W' k1 k2 k3 k4 k5 k6 k7 => ih a' m' b' f' W' (by omega) k2 k3 k4 k5 k6 k7)
set_option maxRecDepth 100000 in
set_option maxHeartbeats 4000000 in
theorem st_a (lt : Cd → Cd → Bool) (hc : CmpOk lt) (g n : Nat) (f0 : Nat → Cd) (w : World) (h : HdC w g n f0) (hn : n < 20) :
    Calls Try.prog 75 #[.slice (some ⟨g, 0, none⟩) n n, .int .i64 (n : Nat), fvC] w (SyR lt g n 0 n f0 w) := by
  have HI : Hid (Calls Try.prog 81 #[.slice (some ⟨g, 0, none⟩) n n, .int .i64 0, .int .i64 (n : Nat), fvC] w (SyR lt g n 0 n f0 w)) := sy_ins lt hc g n 0 n f0 w h (by omega) (by omega) (by omega)
  have t1 : decide ((20 : Int) ≤ (n : Int)) = false := by simp; omega
  have t2 : decide ((20 : Int) < (n : Int)) = false := by simp; omega
  clear h hc
  unfold fvC at HI ⊢
  go_enter Try.func75, Try.ntmps75
  go_wp2_with fail
  refine wp_loop_rounds 1 ?_
  rw [rounds_succ]
  go_wp2_with (go_at_call 81; (with_reducible refine HI.out.mono ?_); rintro e w2 ⟨rfl, hr⟩; have HR := Lib.hid hr; clear hr)
  refine wp_loop_rounds 1 ?_
  rw [rounds_succ]
  go_wp2_with fail
  go_end0
  exact ⟨rfl, HR.out⟩
set_option maxRecDepth 100000 in
set_option maxHeartbeats 4000000 in
theorem st_b (lt : Cd → Cd → Bool) (hc : CmpOk lt) (g : Nat) (f0 : Nat → Cd) (w : World) (h : HdC w g 20 f0) :
    Calls Try.prog 75 #[.slice (some ⟨g, 0, none⟩) 20 20, .int .i64 20, fvC] w (SyR lt g 20 0 20 f0 w) := by
  have HI : Hid (Calls Try.prog 81 #[.slice (some ⟨g, 0, none⟩) 20 20, .int .i64 0, .int .i64 20, fvC] w (SyR lt g 20 0 20 f0 w)) := sy_ins lt hc g 20 0 20 f0 w h (by omega) (by omega) (by omega)
  have HJ : Hid (∀ f W, HdC W g 20 f → Calls Try.prog 81 #[.slice (some ⟨g, 0, none⟩) 20 20, .int .i64 20, .int .i64 20, fvC] W (SyR lt g 20 20 20 f W)) := fun f W h => sy_ins lt hc g 20 20 20 f W h (by omega) (by omega) (by omega)
  clear h hc
  unfold fvC at HI HJ ⊢
  go_enter Try.func75, Try.ntmps75
  go_wp2_with fail
  refine wp_loop_rounds 2 ?_
  rw [rounds_succ]
  go_wp2_with (go_at_call 81; (with_reducible refine HI.out.mono ?_); rintro e w2 ⟨rfl, f1, k1, k2, k3, k4, k5⟩; have K1 := Lib.hid k1; have K2 := Lib.hid k2; have K3 := Lib.hid k3; have K4 := Lib.hid k4; have K5 := Lib.hid k5; clear k1 k2 k3 k4 k5)
  rw [rounds_succ]
  go_wp2_with (go_at_call 81; (with_reducible refine (HJ.out f1 w2 K1.out).mono ?_); rintro e w3 ⟨rfl, f2, k1, k2, k3, k4, k5⟩; have HF : Hid (SyR lt g 20 0 20 f0 w (.returned (.tuple #[])) w3) := SyR.mk' k1 (K2.out.trans (k2.wide (by omega) (by omega))) (k3.trans K3.out) (K4.out.keep fun z p q => k2.2 z (by omega)) (K5.out.trans k5 (fun _ q => .inl q)); clear k1 k2 k3 k4 k5)
  refine wp_loop_rounds 1 ?_
  rw [rounds_succ]
  go_wp2_with fail
  go_end0
  exact HF.out
set_option maxRecDepth 100000 in
set_option maxHeartbeats 4000000 in
theorem st_c (lt : Cd → Cd → Bool) (hc : CmpOk lt) (g n : Nat) (f0 : Nat → Cd) (w : World) (h : HdC w g n f0) (h1 : 20 < n) (h2 : n < 40) :
    Calls Try.prog 75 #[.slice (some ⟨g, 0, none⟩) n n, .int .i64 (n : Nat), fvC] w (SyR lt g n 0 n f0 w) := by
  have HI : Hid (Calls Try.prog 81 #[.slice (some ⟨g, 0, none⟩) n n, .int .i64 0, .int .i64 20, fvC] w (SyR lt g n 0 20 f0 w)) := sy_ins lt hc g n 0 20 f0 w h (by omega) (by omega) (by omega)
  have HJ : Hid (∀ f W, HdC W g n f → Calls Try.prog 81 #[.slice (some ⟨g, 0, none⟩) n n, .int .i64 20, .int .i64 (n : Nat), fvC] W (SyR lt g n 20 n f W)) := fun f W h => sy_ins lt hc g n 20 n f W h (by omega) (by omega) (by omega)
  have HM : Hid (∀ f W, HdC W g n f → Srt (leC lt) f 0 20 → Srt (leC lt) f 20 n → Calls Try.prog 82 #[.slice (some ⟨g, 0, none⟩) n n, .int .i64 0, .int .i64 20, .int .i64 (n : Nat), fvC] W (SyR lt g n 0 n f W)) := fun f W h p q => sy_merge lt hc g n (by omega) n 0 20 n f W (by omega) h (by omega) h1 (by omega) p q
  have t1 : decide ((20 : Int) ≤ (n : Int)) = true := by simp; omega
  have t2 : decide ((40 : Int) ≤ (n : Int)) = false := by simp; omega
  have t3 : decide ((20 : Int) < (n : Int)) = true := by simp; omega
  have t4 : decide ((40 : Int) < (n : Int)) = false := by simp; omega
  clear h hc
  unfold fvC at HI HJ HM ⊢
  go_enter Try.func75, Try.ntmps75
  go_wp2_with fail
  refine wp_loop_rounds 2 ?_
  rw [rounds_succ]
  go_wp2_with (go_at_call 81; (with_reducible refine HI.out.mono ?_); rintro e w2 ⟨rfl, f1, k1, k2, k3, k4, k5⟩; have K1 := Lib.hid k1; have K2 := Lib.hid k2; have K3 := Lib.hid k3; have K4 := Lib.hid k4; have K5 := Lib.hid k5; clear k1 k2 k3 k4 k5)
  rw [rounds_succ]
  go_wp2_with (go_at_call 81; (with_reducible refine (HJ.out f1 w2 K1.out).mono ?_); rintro e w3 ⟨rfl, f2, k1, k2, k3, k4, k5⟩; have L1 := Lib.hid k1; have L2 : Hid (Into f0 f2 0 n) := (K2.out.wide (Nat.le_refl _) (by omega)).trans (k2.wide (by omega) (by omega)); have L3 := Lib.hid (k3.trans K3.out); have L4 := Lib.hid k4; have L6 : Hid (Srt (leC lt) f2 0 20) := K4.out.keep fun z p q => k2.2 z (by omega); have L5 : Hid (Tch (fun k => k = g) w w3) := K5.out.trans k5 (fun _ q => .inl q); clear k1 k2 k3 k4 k5)
  refine wp_loop_rounds 2 ?_
  rw [rounds_succ]
  go_wp2_with fail
  refine wp_loop_rounds 1 ?_
  rw [rounds_succ]
  go_wp2_with (go_at_call 82; (with_reducible refine (HM.out f2 w3 L1.out L6.out L4.out).mono ?_); rintro e w4 ⟨rfl, f3, k1, k2, k3, k4, k5⟩; have HF : Hid (SyR lt g n 0 n f0 w (.returned (.tuple #[])) w4) := SyR.mk' k1 (L2.out.trans k2) (k3.trans L3.out) k4 (L5.out.trans k5 (fun _ q => .inl q)); clear k1 k2 k3 k4 k5)
  rw [rounds_succ]
  go_wp2_with fail
  go_end0
  exact HF.out
set_option maxRecDepth 100000 in
set_option maxHeartbeats 4000000 in
theorem st_d (lt : Cd → Cd → Bool) (hc : CmpOk lt) (g : Nat) (f0 : Nat → Cd) (w : World) (h : HdC w g 40 f0) :
    Calls Try.prog 75 #[.slice (some ⟨g, 0, none⟩) 40 40, .int .i64 40, fvC] w (SyR lt g 40 0 40 f0 w) := by
  have HI : Hid (Calls Try.prog 81 #[.slice (some ⟨g, 0, none⟩) 40 40, .int .i64 0, .int .i64 20, fvC] w (SyR lt g 40 0 20 f0 w)) := sy_ins lt hc g 40 0 20 f0 w h (by omega) (by omega) (by omega)
  have HJ : Hid (∀ f W, HdC W g 40 f → Calls Try.prog 81 #[.slice (some ⟨g, 0, none⟩) 40 40, .int .i64 20, .int .i64 40, fvC] W (SyR lt g 40 20 40 f W)) := fun f W h => sy_ins lt hc g 40 20 40 f W h (by omega) (by omega) (by omega)
  have HL : Hid (∀ f W, HdC W g 40 f → Calls Try.prog 81 #[.slice (some ⟨g, 0, none⟩) 40 40, .int .i64 40, .int .i64 40, fvC] W (SyR lt g 40 40 40 f W)) := fun f W h => sy_ins lt hc g 40 40 40 f W h (by omega) (by omega) (by omega)
  have HM : Hid (∀ f W, HdC W g 40 f → Srt (leC lt) f 0 20 → Srt (leC lt) f 20 40 → Calls Try.prog 82 #[.slice (some ⟨g, 0, none⟩) 40 40, .int .i64 0, .int .i64 20, .int .i64 40, fvC] W (SyR lt g 40 0 40 f W)) := fun f W h p q => sy_merge lt hc g 40 (by omega) 40 0 20 40 f W (by omega) h (by omega) (by omega) (by omega) p q
  clear h hc
  unfold fvC at HI HJ HL HM ⊢
  go_enter Try.func75, Try.ntmps75
  go_wp2_with fail
  refine wp_loop_rounds 3 ?_
  rw [rounds_succ]
  go_wp2_with (go_at_call 81; (with_reducible refine HI.out.mono ?_); rintro e w2 ⟨rfl, f1, k1, k2, k3, k4, k5⟩; have K1 := Lib.hid k1; have K2 := Lib.hid k2; have K3 := Lib.hid k3; have K4 := Lib.hid k4; have K5 := Lib.hid k5; clear k1 k2 k3 k4 k5)
  rw [rounds_succ]
  go_wp2_with (go_at_call 81; (with_reducible refine (HJ.out f1 w2 K1.out).mono ?_); rintro e w3 ⟨rfl, f2, k1, k2, k3, k4, k5⟩; have L1 := Lib.hid k1; have L2 : Hid (Into f0 f2 0 40) := (K2.out.wide (Nat.le_refl _) (by omega)).trans (k2.wide (by omega) (by omega)); have L3 := Lib.hid (k3.trans K3.out); have L4 := Lib.hid k4; have L6 : Hid (Srt (leC lt) f2 0 20) := K4.out.keep fun z p q => k2.2 z (by omega); have L5 : Hid (Tch (fun k => k = g) w w3) := K5.out.trans k5 (fun _ q => .inl q); clear k1 k2 k3 k4 k5)
  rw [rounds_succ]
  go_wp2_with (go_at_call 81; (with_reducible refine (HL.out f2 w3 L1.out).mono ?_); rintro e w4 ⟨rfl, f3, k1, k2, k3, k4, k5⟩; have M1 := Lib.hid k1; have M2 : Hid (Into f0 f3 0 40) := L2.out.trans (k2.wide (by omega) (by omega)); have M3 := Lib.hid (k3.trans L3.out); have M4 : Hid (Srt (leC lt) f3 20 40) := L4.out.keep (fun z p q => k2.2 z (by omega)); have M6 : Hid (Srt (leC lt) f3 0 20) := L6.out.keep (fun z p q => k2.2 z (by omega)); have M5 : Hid (Tch (fun k => k = g) w w4) := L5.out.trans k5 (fun _ q => .inl q); clear k1 k2 k3 k4 k5)
  refine wp_loop_rounds 2 ?_
  rw [rounds_succ]
  go_wp2_with fail
  refine wp_loop_rounds 2 ?_
  rw [rounds_succ]
  go_wp2_with (go_at_call 82; (with_reducible refine (HM.out f3 w4 M1.out M6.out M4.out).mono ?_); rintro e w5 ⟨rfl, f4, k1, k2, k3, k4, k5⟩; have HF : Hid (SyR lt g 40 0 40 f0 w (.returned (.tuple #[])) w5) := SyR.mk' k1 (M2.out.trans k2) (k3.trans M3.out) k4 (M5.out.trans k5 (fun _ q => .inl q)); clear k1 k2 k3 k4 k5)
  rw [rounds_succ]
  go_wp2_with fail
  rw [rounds_succ]
  go_wp2_with fail
  go_end0
  exact HF.out
theorem sy_stable (lt : Cd → Cd → Bool) (hc : CmpOk lt) (g n : Nat) (f0 : Nat → Cd) (w : World) (h : HdC w g n f0) (hn : n ≤ 40) :
    Calls Try.prog 75 #[.slice (some ⟨g, 0, none⟩) n n, .int .i64 (n : Nat), fvC] w (SyR lt g n 0 n f0 w) := by
  by_cases h1 : n < 20
  · exact st_a lt hc g n f0 w h h1
  · by_cases h2 : n = 20
    · subst h2; exact st_b lt hc g f0 w h
    · by_cases h3 : n < 40
      · exact st_c lt hc g n f0 w h (by omega) h3
      · obtain rfl : n = 40 := by omega
        exact st_d lt hc g f0 w h
set_option maxRecDepth 100000 in
theorem sy_sort (lt : Cd → Cd → Bool) (hc : CmpOk lt) (g n : Nat) (f0 : Nat → Cd) (w : World) (h : HdC w g n f0) (hn : n ≤ 40) :
    Calls Try.prog 62 #[.slice (some ⟨g, 0, none⟩) n n, fvC] w (SyR lt g n 0 n f0 w) := by
  have HS := Lib.hid (sy_stable lt hc g n f0 w h hn)
  clear h hc
  unfold fvC at HS ⊢
  go_enter Try.func62, Try.ntmps62
  go_wp2_with (go_at_call 75; (with_reducible refine HS.out.mono ?_); rintro e w2 ⟨rfl, hr⟩; have HR := Lib.hid hr; clear hr)
  go_end0
  exact ⟨rfl, HR.out⟩
end Go.Proofs.Ytpcbfoddlpgdjaa
