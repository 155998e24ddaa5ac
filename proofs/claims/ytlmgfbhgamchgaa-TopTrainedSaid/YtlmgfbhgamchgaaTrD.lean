/- quant.each, Table; slices.Min, slices.Index of a row of distances. -/
import Derived.Test.YtlmgfbhgamchgaaTrC
namespace Go.Proofs.Ytlmgfbhgamchgaa
open Go.RowKit
set_option maxRecDepth 100000 in
theorem sl_min (A : Option Addr) (n c : Nat) (d : Nat → Nat) (w : World) (B : Nat) (hr : Rd w B A n ((tabL d n).map (.int .u64))) (h1 : 1 ≤ n) (hn : n ≤ 30) (hd : ∀ j, d j < 18446744073709551616) :
    Calls Try.prog 41 #[.slice A n c] w fun e w' => e = .returned (.int .u64 ((grpL d (n - 1)).2 : Nat)) ∧ w = w' := by
  have HR := Lib.hid hr
  have HD := Lib.hid hd
  have t1 : decide (n < 1) = false := by simp; omega
  obtain ⟨b, o, rfl, hb, hc⟩ := hr.atI (k := 0) (by omega)
  rw [tabL_ig (by omega), Nat.add_zero] at hc
  obtain ⟨x, hx⟩ : ∃ x : Nat, d 0 = x := ⟨_, rfl⟩
  rw [hx] at hc
  have HG0 : Hid ((grpL d 0).2 = x) := hx
  clear hr hd hb hx
  go_enter Try.func41, Try.ntmps41
  go_wp2_with fail
  clear hc
  go_loop [3, 4] (fun s3 s4 => ∃ (k m : Nat), k + 1 ≤ n ∧ s4 = .int .i64 ((k + 1 : Nat) : Int) ∧ s3 = .int .u64 m ∧ Hid ((grpL d k).2 = m)) (fun _ s4 => n - (intOf s4).toNat)
  case atStart => exact ⟨0, x, by omega, rfl, rfl, HG0⟩
  case round =>
    obtain ⟨k, m, hk, rfl, rfl, hm⟩ := hrel
    by_cases hlt : k + 1 < n
    · obtain ⟨b', o', e', hb', hc⟩ := HR.out.atI hlt
      injection e' with e'
      injection e' with e1 e2
      subst e1 e2
      rw [tabL_ig hlt] at hc
      have hy0 := HD.out (k + 1)
      obtain ⟨y, hy⟩ : ∃ y : Nat, d (k + 1) = y := ⟨_, rfl⟩
      rw [hy] at hc hy0
      have HN : Hid (((grpL d (k + 1)).2 : Int) = min (m : Int) (y : Int)) := by
        show _ = _
        rw [grpL, hm.out, hy]
        split
        · show ((y : Nat) : Int) = _; omega
        · rw [hm.out]; omega
      clear hy hb'
      go_wp2_with fail
      go_round
      case rel => exact ⟨k + 1, _, by omega, by go_num, congrArg (Value.int .u64) HN.out.symm, rfl⟩
      case measure => simp [intOf]; omega
    · have e : n - 1 = k := by omega
      have HN : Hid ((grpL d (n - 1)).2 = m) := by show _ = _; rw [e]; exact hm.out
      have t2 : decide (k + 1 < n) = false := by simp; omega
      clear e
      go_wp2
      go_ret
      exact ⟨ret_int (by rw [HN.out]), rfl⟩
set_option maxRecDepth 100000 in
theorem sl_index (A : Option Addr) (n c m x : Nat) (d : Nat → Nat) (w : World) (B : Nat) (hr : Rd w B A n ((tabL d n).map (.int .u64))) (hm : m < n) (hn : n ≤ 30) (hx : d m = x) (hne : ∀ j, j < m → d j ≠ x) :
    Calls Try.prog 40 #[.slice A n c, .int .u64 (x : Nat)] w fun e w' => e = .returned (.int .i64 (m : Nat)) ∧ w = w' := by
  have HR := Lib.hid hr
  have HNE := Lib.hid hne
  have HX := Lib.hid hx
  clear hr hne hx
  go_enter Try.func40, Try.ntmps40
  go_wp2_with fail
  go_loop [8] (fun s8 => ∃ (k : Nat), k ≤ m ∧ s8 = .int .i64 (k : Nat)) (fun s8 => n - (intOf s8).toNat)
  case atStart => exact ⟨0, by omega, rfl⟩
  case round =>
    obtain ⟨k, hk, rfl⟩ := hrel
    have hkn : k < n := by omega
    obtain ⟨b, o, rfl, hb, hc⟩ := HR.out.atI hkn
    rw [tabL_ig hkn] at hc
    by_cases h : k = m
    · subst h
      rw [HX.out] at hc
      have t : ((x : Int) == (x : Int)) = true := by simp
      go_wp2_with fail
      go_ret
      exact ⟨rfl, rfl⟩
    · have hne := HNE.out k (by omega)
      obtain ⟨y, hy⟩ : ∃ y : Nat, d k = y := ⟨_, rfl⟩
      rw [hy] at hc hne
      have t : ((x : Int) == (y : Int)) = false := by rw [beq_eq_false_iff_ne]; omega
      clear hy hne
      go_wp2_with fail
      go_round
      case rel => exact ⟨k + 1, by omega, by go_num⟩
      case measure => simp [intOf]; omega
theorem elem32T : ∀ w, (sizeOf (Try.prog.elem 22)).run Try.prog w = .ok 1 w := fun w => by kernel_rfl
set_option maxRecDepth 100000 in
set_option maxHeartbeats 2000000 in
theorem q_each (g : Nat) (A : Option Addr) (n c : Nat) (l : List Vc) (p : Vc) (bb O T B0 : Nat) (d : Nat → Nat) (w : World) (hbk : Bk w B0 g A n c l) (h1 : 1 ≤ n) (hn : n ≤ 30) (hp : p.At w B0) (hbb : w.cell? ⟨bb, 0, none⟩ = some (.slice (some ⟨g, 0, none⟩) 1 1))
    (hs : TbS w B0 O T none 0 0 []) (hB : B0 ≤ w.heap.size) (hd : ∀ j, d j = distE p.xs (lg (vxs l) j)) (hdim : (lg (vxs l) 0).length = p.n) :
    Calls Try.prog 59 #[.slice (some ⟨g, 0, none⟩) 1 1, p.v, .func (.func 60) #[] #[.pointer (some ⟨bb, 0, none⟩), .pointer (some ⟨O, 0, none⟩)]] w fun e w' => e = .returned (.tuple #[]) ∧ (∃ A' c', TbS w' B0 O T A' n c' ((tabL d n).map (.int .u64))) ∧ Below B0 w w' := by
  have HT := Lib.hid (q_tab1 g A n c l p bb O T B0 d w hbk hn hp hbb hs hB hd)
  obtain ⟨b, o, v, rfl, hb, hu, hat, hc0⟩ := hbk.2.2.1.at_ (i := 0) (by omega)
  rw [vxs_lg hu, hat.len] at hdim
  have hbc := hbk.2.1
  have hpc := hp.2.1.1
  have HBK := Lib.hid hbk
  obtain ⟨PA, pn, pc, pxs⟩ := p
  obtain ⟨VA, vn, vc, vx⟩ := v
  simp only [Vc.v] at hdim hc0 HT hpc ⊢
  subst hdim
  rw [Nat.add_zero] at hc0
  have s1 := fun w => run_hi (P := Try.prog) Try.underlying22 elem32T PA vn pc vn hpc w
  have s2 := fun w => run_from (P := Try.prog) Try.underlying22 elem32T PA vn pc vn (Nat.le_refl _) w
  have S1 := Lib.hid s1
  have S2 := Lib.hid s2
  have HC0 := Lib.hid hc0
  have HBC := Lib.hid hbc
  clear hbk hp hbb hs hd hu hat hb s1 s2 hc0 hbc
  go_enter Try.func59, Try.ntmps59
  go_wp2_with fail
  go_loopw [1, 6, 7, 8, 11] (fun s1 _ _ _ s11 wr => ∃ k : Nat, k ≤ 1 ∧ s11 = .int .i64 k ∧ Hid (k = 0 → s1 = .slice PA vn pc ∧ wr = w) ∧ Hid (k = 1 → (∃ A' c', TbS wr B0 O T A' n c' ((tabL d n).map (.int .u64))) ∧ Below B0 w wr)) (fun _ _ _ _ s11 _ => 1 - (intOf s11).toNat)
  case atStart => exact ⟨0, Nat.zero_le _, rfl, fun _ => ⟨rfl, rfl⟩, fun h => by omega⟩
  case round =>
    obtain ⟨k, hk, rfl, hz, ho⟩ := hrel
    by_cases h0 : k = 0
    · subst h0
      obtain ⟨rfl, rfl⟩ := hz.out rfl
      have hc0 := HC0.out
      have hbc := HBC.out
      have s1 := S1.out
      have s2 := S2.out
      clear hz ho
      go_wp2_with (go_at_call 60; (with_reducible refine HT.out.mono ?_); rintro e w' ⟨rfl, q1, q2⟩; have Q : Hid ((∃ A' c', TbS w' B0 O T A' n c' ((tabL d n).map (.int .u64))) ∧ Below B0 wr w') := ⟨q1, q2⟩; clear q1 q2 hc0 hbc)
      clear s1 s2
      go_roundw
      case rel => exact ⟨1, Nat.le_refl _, by go_num, fun h => by omega, fun _ => Q.out⟩
      case measure => simp [intOf]
    · obtain rfl : k = 1 := by omega
      have Q := Lib.hid (ho.out rfl)
      clear hz ho
      go_wp2
      go_end0
      exact ⟨rfl, Q.out⟩
end Go.Proofs.Ytlmgfbhgamchgaa
