/- Candidates in a row of the call's own: neighbours merged; a stable sort. Printed by genSyS.py. -/
import Derived.Test.YtpcbfoddlpgdjaaSyW
namespace Go.Proofs.Ytpcbfoddlpgdjaa
open Go.RowKit
theorem SyR.mk' {lt : Cd → Cd → Bool} {g n a b : Nat} {f f' : Nat → Cd} {w w' : World} (h : HdC w' g n f') (hi : Into f f' a b) (hp : (asL f' n).Perm (asL f n)) (hs : Srt (leC lt) f' a b) (ht : Tch (fun k => k = g) w w') : SyR lt g n a b f w (.returned (.tuple #[])) w' := ⟨rfl, f', h, hi, hp, hs, ht⟩
set_option maxRecDepth 100000 in
set_option maxHeartbeats 8000000 in
theorem sy_m1 (lt : Cd → Cd → Bool) (hc : CmpOk lt) (g n a m b : Nat) (f0 : Nat → Cd) (w : World) (h : HdC w g n f0) (ham : m = a + 1) (hmb : m < b) (hbn : b ≤ n) (hn : n ≤ 1048576) (h2 : Srt (leC lt) f0 m b) :
    Calls Try.prog 82 #[.slice (some ⟨g, 0, none⟩) n n, .int .i64 (a : Nat), .int .i64 (m : Nat), .int .i64 (b : Nat), fvC] w (SyR lt g n a b f0 w) := by
  have HH := Lib.hid h
  have HC := Lib.hid hc
  have HO := Lib.hid h2
  have HAM := Lib.hid ham
  have hml : a < m := by omega
  have t0 : ((m : Int) - (a : Int) == 1) = true := by rw [beq_iff_eq]; omega
  clear h hc h2 ham
  unfold fvC
  go_enter Try.func82, Try.ntmps82
  go_wp2_with fail
  clear t0
  go_loopw [10, 11, 12] (fun s10 s11 _ wr => ∃ i j : Nat, s10 = .int .i64 i ∧ s11 = .int .i64 j ∧ Hid (SeaI (leC lt) f0 (f0 a) m b i j) ∧ Hid (HdC wr g n f0) ∧ Hid (Tch (fun k => k = g) w wr)) (fun s10 s11 _ _ => (intOf s11).toNat - (intOf s10).toNat)
  case atStart => exact ⟨m, b, rfl, rfl, SeaI.start _ _ (by omega), HH, Tch.refl _ _⟩
  case round =>
    obtain ⟨i, j, rfl, rfl, HSE, HS, HT⟩ := hrel
    have q1 := HSE.out.b1
    have q2 := HSE.out.b2
    have q3 := HSE.out.b3
    by_cases hlt : i < j
    · go_upto_region 5 with fail
      obtain ⟨h, hh⟩ : ∃ h, (i + j) / 2 = h := ⟨_, rfl⟩
      have EH : ((i : Int) + (j : Int)) / 2 = ((h : Nat) : Int) := by omega
      (try simp only [EH])
      have hih : i ≤ h := by omega
      have hhj : h < j := by omega
      have HHN : Hid (h < n) := by show _ < _; omega
      have HAN : Hid (a < n) := by show _ < _; omega
      clear EH hh
      cases hl : lt (f0 h) (f0 a) with
      | true =>
        have LT := Lib.hid hl
        have HSE2 := Lib.hid (HSE.out.up HC.out.tr' HO.out hih hhj (HC.out.asy _ _ hl))
        clear hl
        refine wp_region_held_drew (S := fun w' => Below wr.heap.size wr w') (by kernel_rfl) (below_drewN (Below.refl _ _) 1) (fun hH => ?_)
        refine wpAnyH_take (i := 0) (v := .func (.func 63) #[] #[]) rfl (by kernel_rfl) (by kernel_rfl) (by kernel_rfl) (fun _ _ _ h => h) (.inl ⟨by rfl, fun _ _ => by kernel_rfl⟩) hH ?_
        (try simp only [List.getElem_toArray, List.getElem_cons_zero, Act.put, List.setIfInBounds_toArray, List.set_cons_zero, List.set_cons_succ])
        refine wpAnyH_take (i := 1) (v := .slice (some ⟨g, 0, none⟩) n n) rfl (by kernel_rfl) (by kernel_rfl) (by kernel_rfl) (fun _ _ _ h => h) (.inl ⟨by rfl, fun _ _ => by kernel_rfl⟩) hH ?_
        (try simp only [List.getElem_toArray, List.getElem_cons_zero, List.getElem_cons_succ, Act.put, List.setIfInBounds_toArray, List.set_cons_zero, List.set_cons_succ])
        refine wpAnyH_take (i := 2) (v := .int .i64 ((h : Nat) : Int)) rfl (by kernel_rfl) (by kernel_rfl) (by kernel_rfl) (fun _ _ _ h => h) (.inl ⟨by rfl, fun _ _ => by kernel_rfl⟩) hH ?_
        (try simp only [List.getElem_toArray, List.getElem_cons_zero, List.getElem_cons_succ, Act.put, List.setIfInBounds_toArray, List.set_cons_zero, List.set_cons_succ])
        refine wpAnyH_take (i := 3) (v := .pointer (some ⟨g, 0 + h * 4, none⟩)) rfl (by kernel_rfl) (by kernel_rfl) (by kernel_rfl) (fun _ _ _ h => h) (yieldsIf_indexC (k := h) Try.underlying71 szCd (by rfl) _ _ rfl rfl rfl HHN.out) hH ?_
        (try simp only [List.getElem_toArray, List.getElem_cons_zero, List.getElem_cons_succ, Act.put, List.setIfInBounds_toArray, List.set_cons_zero, List.set_cons_succ])
        refine wpAnyH_take (i := 4) (v := (f0 h).v) rfl (by kernel_rfl) (by kernel_rfl) (by kernel_rfl) (fun _ _ _ h => h) (yieldsIf_loadP (by rfl) _ rfl rfl (fun _ s => (HS.out.bel s).load HHN.out)) hH ?_
        (try simp only [List.getElem_toArray, List.getElem_cons_zero, List.getElem_cons_succ, Act.put, List.setIfInBounds_toArray, List.set_cons_zero, List.set_cons_succ])
        refine wpAnyH_take (i := 5) (v := .slice (some ⟨g, 0, none⟩) n n) rfl (by kernel_rfl) (by kernel_rfl) (by kernel_rfl) (fun _ _ _ h => h) (.inl ⟨by rfl, fun _ _ => by kernel_rfl⟩) hH ?_
        (try simp only [List.getElem_toArray, List.getElem_cons_zero, List.getElem_cons_succ, Act.put, List.setIfInBounds_toArray, List.set_cons_zero, List.set_cons_succ])
        refine wpAnyH_take (i := 6) (v := .int .i64 ((a : Nat) : Int)) rfl (by kernel_rfl) (by kernel_rfl) (by kernel_rfl) (fun _ _ _ h => h) (.inl ⟨by rfl, fun _ _ => by kernel_rfl⟩) hH ?_
        (try simp only [List.getElem_toArray, List.getElem_cons_zero, List.getElem_cons_succ, Act.put, List.setIfInBounds_toArray, List.set_cons_zero, List.set_cons_succ])
        refine wpAnyH_take (i := 7) (v := .pointer (some ⟨g, 0 + a * 4, none⟩)) rfl (by kernel_rfl) (by kernel_rfl) (by kernel_rfl) (fun _ _ _ h => h) (yieldsIf_indexC (k := a) Try.underlying71 szCd (by rfl) _ _ rfl rfl rfl HAN.out) hH ?_
        (try simp only [List.getElem_toArray, List.getElem_cons_zero, List.getElem_cons_succ, Act.put, List.setIfInBounds_toArray, List.set_cons_zero, List.set_cons_succ])
        refine wpAnyH_take (i := 8) (v := (f0 a).v) rfl (by kernel_rfl) (by kernel_rfl) (by kernel_rfl) (fun _ _ _ h => h) (yieldsIf_loadP (by rfl) _ rfl rfl (fun _ s => (HS.out.bel s).load HAN.out)) hH ?_
        (try simp only [List.getElem_toArray, List.getElem_cons_zero, List.getElem_cons_succ, Act.put, List.setIfInBounds_toArray, List.set_cons_zero, List.set_cons_succ])
        refine wpAnyH_call 9 63 #[(f0 h).v, (f0 a).v] _ (by kernel_rfl) (by rfl) (by kernel_rfl) (by kernel_rfl) (HC.out.cmp _ _ _) ?_
        rintro e Z1 ⟨r, rfl, hr, hb1⟩
        have h1 : Below wr.heap.size wr Z1 := hH.trans (hb1.mono hH.size)
        rw [LT.out] at hr
        refine ⟨_, rfl, h1, ?_⟩
        (try simp only [List.getElem_toArray, List.getElem_cons_zero, List.getElem_cons_succ, Act.put, List.setIfInBounds_toArray, List.set_cons_zero, List.set_cons_succ])
        refine wpAnyH_take (i := 10) (v := .bool true) rfl (by kernel_rfl) (by kernel_rfl) (by kernel_rfl) (fun _ _ _ h => h) (yieldsIf_lssS hr (by rfl) _ _ rfl rfl rfl) h1 ?_
        (try simp only [List.getElem_toArray, List.getElem_cons_zero, List.getElem_cons_succ, Act.put, List.setIfInBounds_toArray, List.set_cons_zero, List.set_cons_succ])
        refine wpAnyH_done (by kernel_rfl) ?_ _
        have H1 := Lib.hid h1
        clear hH h1 hb1 hr
        go_wp2_with fail
        go_roundw
        case rel => exact ⟨h + 1, j, by go_num, rfl, HSE2, Lib.hid (HS.out.bel H1.out), Lib.hid (HT.out.trans (Tch.of_below H1.out) (fun _ q => .inl q))⟩
        case measure => simp [intOf]; omega
      | false =>
        have LT := Lib.hid hl
        have HSE2 := Lib.hid (HSE.out.down HC.out.tr' HO.out hih hhj hl)
        clear hl
        refine wp_region_held_drew (S := fun w' => Below wr.heap.size wr w') (by kernel_rfl) (below_drewN (Below.refl _ _) 1) (fun hH => ?_)
        refine wpAnyH_take (i := 0) (v := .func (.func 63) #[] #[]) rfl (by kernel_rfl) (by kernel_rfl) (by kernel_rfl) (fun _ _ _ h => h) (.inl ⟨by rfl, fun _ _ => by kernel_rfl⟩) hH ?_
        (try simp only [List.getElem_toArray, List.getElem_cons_zero, Act.put, List.setIfInBounds_toArray, List.set_cons_zero, List.set_cons_succ])
        refine wpAnyH_take (i := 1) (v := .slice (some ⟨g, 0, none⟩) n n) rfl (by kernel_rfl) (by kernel_rfl) (by kernel_rfl) (fun _ _ _ h => h) (.inl ⟨by rfl, fun _ _ => by kernel_rfl⟩) hH ?_
        (try simp only [List.getElem_toArray, List.getElem_cons_zero, List.getElem_cons_succ, Act.put, List.setIfInBounds_toArray, List.set_cons_zero, List.set_cons_succ])
        refine wpAnyH_take (i := 2) (v := .int .i64 ((h : Nat) : Int)) rfl (by kernel_rfl) (by kernel_rfl) (by kernel_rfl) (fun _ _ _ h => h) (.inl ⟨by rfl, fun _ _ => by kernel_rfl⟩) hH ?_
        (try simp only [List.getElem_toArray, List.getElem_cons_zero, List.getElem_cons_succ, Act.put, List.setIfInBounds_toArray, List.set_cons_zero, List.set_cons_succ])
        refine wpAnyH_take (i := 3) (v := .pointer (some ⟨g, 0 + h * 4, none⟩)) rfl (by kernel_rfl) (by kernel_rfl) (by kernel_rfl) (fun _ _ _ h => h) (yieldsIf_indexC (k := h) Try.underlying71 szCd (by rfl) _ _ rfl rfl rfl HHN.out) hH ?_
        (try simp only [List.getElem_toArray, List.getElem_cons_zero, List.getElem_cons_succ, Act.put, List.setIfInBounds_toArray, List.set_cons_zero, List.set_cons_succ])
        refine wpAnyH_take (i := 4) (v := (f0 h).v) rfl (by kernel_rfl) (by kernel_rfl) (by kernel_rfl) (fun _ _ _ h => h) (yieldsIf_loadP (by rfl) _ rfl rfl (fun _ s => (HS.out.bel s).load HHN.out)) hH ?_
        (try simp only [List.getElem_toArray, List.getElem_cons_zero, List.getElem_cons_succ, Act.put, List.setIfInBounds_toArray, List.set_cons_zero, List.set_cons_succ])
        refine wpAnyH_take (i := 5) (v := .slice (some ⟨g, 0, none⟩) n n) rfl (by kernel_rfl) (by kernel_rfl) (by kernel_rfl) (fun _ _ _ h => h) (.inl ⟨by rfl, fun _ _ => by kernel_rfl⟩) hH ?_
        (try simp only [List.getElem_toArray, List.getElem_cons_zero, List.getElem_cons_succ, Act.put, List.setIfInBounds_toArray, List.set_cons_zero, List.set_cons_succ])
        refine wpAnyH_take (i := 6) (v := .int .i64 ((a : Nat) : Int)) rfl (by kernel_rfl) (by kernel_rfl) (by kernel_rfl) (fun _ _ _ h => h) (.inl ⟨by rfl, fun _ _ => by kernel_rfl⟩) hH ?_
        (try simp only [List.getElem_toArray, List.getElem_cons_zero, List.getElem_cons_succ, Act.put, List.setIfInBounds_toArray, List.set_cons_zero, List.set_cons_succ])
        refine wpAnyH_take (i := 7) (v := .pointer (some ⟨g, 0 + a * 4, none⟩)) rfl (by kernel_rfl) (by kernel_rfl) (by kernel_rfl) (fun _ _ _ h => h) (yieldsIf_indexC (k := a) Try.underlying71 szCd (by rfl) _ _ rfl rfl rfl HAN.out) hH ?_
        (try simp only [List.getElem_toArray, List.getElem_cons_zero, List.getElem_cons_succ, Act.put, List.setIfInBounds_toArray, List.set_cons_zero, List.set_cons_succ])
        refine wpAnyH_take (i := 8) (v := (f0 a).v) rfl (by kernel_rfl) (by kernel_rfl) (by kernel_rfl) (fun _ _ _ h => h) (yieldsIf_loadP (by rfl) _ rfl rfl (fun _ s => (HS.out.bel s).load HAN.out)) hH ?_
        (try simp only [List.getElem_toArray, List.getElem_cons_zero, List.getElem_cons_succ, Act.put, List.setIfInBounds_toArray, List.set_cons_zero, List.set_cons_succ])
        refine wpAnyH_call 9 63 #[(f0 h).v, (f0 a).v] _ (by kernel_rfl) (by rfl) (by kernel_rfl) (by kernel_rfl) (HC.out.cmp _ _ _) ?_
        rintro e Z1 ⟨r, rfl, hr, hb1⟩
        have h1 : Below wr.heap.size wr Z1 := hH.trans (hb1.mono hH.size)
        rw [LT.out] at hr
        refine ⟨_, rfl, h1, ?_⟩
        (try simp only [List.getElem_toArray, List.getElem_cons_zero, List.getElem_cons_succ, Act.put, List.setIfInBounds_toArray, List.set_cons_zero, List.set_cons_succ])
        refine wpAnyH_take (i := 10) (v := .bool false) rfl (by kernel_rfl) (by kernel_rfl) (by kernel_rfl) (fun _ _ _ h => h) (yieldsIf_lssS hr (by rfl) _ _ rfl rfl rfl) h1 ?_
        (try simp only [List.getElem_toArray, List.getElem_cons_zero, List.getElem_cons_succ, Act.put, List.setIfInBounds_toArray, List.set_cons_zero, List.set_cons_succ])
        refine wpAnyH_done (by kernel_rfl) ?_ _
        have H1 := Lib.hid h1
        clear hH h1 hb1 hr
        go_wp2_with fail
        go_roundw
        case rel => exact ⟨i, h, rfl, rfl, HSE2, Lib.hid (HS.out.bel H1.out), Lib.hid (HT.out.trans (Tch.of_below H1.out) (fun _ q => .inl q))⟩
        case measure => simp [intOf]; omega
    · obtain rfl : i = j := by omega
      obtain ⟨wo, rfl⟩ : ∃ wo : World, wo = wr := ⟨_, rfl⟩
      have HFS : Hid (Srt (leC lt) (roF f0 a (a + 1) i) a b) := by
        have h1 := HAM.out
        exact ins1_law HC.out.tr' (by rw [← h1]; exact HO.out) (by omega) q3 (fun z p q => HSE.out.l z (by omega) q) HSE.out.r
      have HFI : Hid (Into f0 (roF f0 a (a + 1) i) a b) := (Into.ro (by omega) (by have := HAM.out; omega)).wide (Nat.le_refl _) q3
      have hai : a + 1 ≤ i := by omega
      have HS1 : Hid (HdC wo g n (roF f0 a (a + 1) (a + 1))) := by show HdC _ _ _ _; rw [roF_nil2]; exact HS.out
      have HP1 : Hid ((asL (roF f0 a (a + 1) (a + 1)) n).Perm (asL f0 n)) := by show List.Perm _ _; rw [roF_nil2]
      have HTO := HT
      clear HS HT HSE
      go_wp2_with fail
      go_loopw [13] (fun s13 wr => ∃ k : Nat, a ≤ k ∧ k + 1 ≤ i ∧ s13 = .int .i64 k ∧ Hid (HdC wr g n (roF f0 a (a + 1) (k + 1))) ∧ Hid ((asL (roF f0 a (a + 1) (k + 1)) n).Perm (asL f0 n)) ∧ Hid (Tch (fun k => k = g) w wr)) (fun s13 _ => i - (intOf s13).toNat)
      case atStart => exact ⟨a, Nat.le_refl _, hai, rfl, HS1, HP1, HTO⟩
      case round =>
        clear HS1 HP1 HTO
        obtain ⟨k, hk1, hk2, rfl, HS0, HP, HT⟩ := hrel
        by_cases hlt2 : k + 1 < i
        · have t1 : decide ((k : Int) < (i : Int) - 1) = true := by simp; omega
          go_upto_region 11 with fail
          clear t1
          obtain ⟨y, hy⟩ : ∃ y, k + 1 = y := ⟨_, rfl⟩
          obtain ⟨f, hf⟩ : ∃ f, roF f0 a (a + 1) (k + 1) = f := ⟨_, rfl⟩
          have HN : Hid (swF f k y = roF f0 a (a + 1) (y + 1)) := by show _ = _; rw [← hf, ← hy]; exact roF_up f0 hk1
          rw [hf] at HS0 HP
          have HS := HS0
          have EY := Lib.hid (show IntKind.i64.wrap (((k : Nat) : Int) + 1) = ((y : Nat) : Int) from wi_nat (by omega) (by omega))
          have HKN : Hid (k < n) := by show _ < _; omega
          have HYN : Hid (y < n) := by show _ < _; omega
          have HP2 : Hid ((asL (roF f0 a (a + 1) (y + 1)) n).Perm (asL f0 n)) := by show List.Perm _ _; rw [← HN.out]; exact (asL_sw HKN.out HYN.out).trans HP.out
          have hya : a ≤ y := by omega
          have hyi : y + 1 ≤ i := by omega
          have EW : Hid (((k : Nat) : Int) + 1 = ((y : Nat) : Int)) := by show _ = _; omega
          have hky : y = k + 1 := hy.symm
          have HKY := Lib.hid hky
          clear hf hy HP HS0 hky
          refine wp_region_held_drew (S := fun w' => Tch (fun k => k = g) wr w') (by kernel_rfl) ((Tch.refl _ wr).drewN 1) (fun hH => ?_)
          obtain ⟨W, hW⟩ : ∃ q, wr.drew = q := ⟨_, rfl⟩
          have HSW : Hid (HdC W g n f) := by show HdC _ _ _ _; rw [← hW]; exact HS.out.bel (below_drewN (Below.refl _ wr) 1)
          rw [hW] at hH ⊢
          clear hW
          refine wpAnyH_take (i := 0) (v := .slice (some ⟨g, 0, none⟩) n n) rfl (by kernel_rfl) (by kernel_rfl) (by kernel_rfl) (fun _ _ _ h => h) (.inl ⟨by rfl, fun _ _ => by kernel_rfl⟩) hH ?_
          (try simp only [List.getElem_toArray, List.getElem_cons_zero, Act.put, List.setIfInBounds_toArray, List.set_cons_zero, List.set_cons_succ])
          refine wpAnyH_take (i := 1) (v := .int .i64 ((k : Nat) : Int)) rfl (by kernel_rfl) (by kernel_rfl) (by kernel_rfl) (fun _ _ _ h => h) (.inl ⟨by rfl, fun _ _ => by kernel_rfl⟩) hH ?_
          (try simp only [List.getElem_toArray, List.getElem_cons_zero, List.getElem_cons_succ, Act.put, List.setIfInBounds_toArray, List.set_cons_zero, List.set_cons_succ])
          refine wpAnyH_take (i := 2) (v := .slice (some ⟨g, 0, none⟩) n n) rfl (by kernel_rfl) (by kernel_rfl) (by kernel_rfl) (fun _ _ _ h => h) (.inl ⟨by rfl, fun _ _ => by kernel_rfl⟩) hH ?_
          (try simp only [List.getElem_toArray, List.getElem_cons_zero, List.getElem_cons_succ, Act.put, List.setIfInBounds_toArray, List.set_cons_zero, List.set_cons_succ])
          refine wpAnyH_take (i := 3) (v := .int .i64 ((k : Nat) : Int)) rfl (by kernel_rfl) (by kernel_rfl) (by kernel_rfl) (fun _ _ _ h => h) (.inl ⟨by rfl, fun _ _ => by kernel_rfl⟩) hH ?_
          (try simp only [List.getElem_toArray, List.getElem_cons_zero, List.getElem_cons_succ, Act.put, List.setIfInBounds_toArray, List.set_cons_zero, List.set_cons_succ])
          refine wpAnyH_take (i := 4) (v := .int .i64 ((y : Nat) : Int)) rfl (by kernel_rfl) (by kernel_rfl) (by kernel_rfl) (fun _ _ _ h => h) (yieldsIf_addS EY.out (by rfl) _ _ rfl rfl rfl) hH ?_
          (try simp only [List.getElem_toArray, List.getElem_cons_zero, List.getElem_cons_succ, Act.put, List.setIfInBounds_toArray, List.set_cons_zero, List.set_cons_succ])
          refine wpAnyH_take (i := 5) (v := .slice (some ⟨g, 0, none⟩) n n) rfl (by kernel_rfl) (by kernel_rfl) (by kernel_rfl) (fun _ _ _ h => h) (.inl ⟨by rfl, fun _ _ => by kernel_rfl⟩) hH ?_
          (try simp only [List.getElem_toArray, List.getElem_cons_zero, List.getElem_cons_succ, Act.put, List.setIfInBounds_toArray, List.set_cons_zero, List.set_cons_succ])
          refine wpAnyH_take (i := 6) (v := .int .i64 ((k : Nat) : Int)) rfl (by kernel_rfl) (by kernel_rfl) (by kernel_rfl) (fun _ _ _ h => h) (.inl ⟨by rfl, fun _ _ => by kernel_rfl⟩) hH ?_
          (try simp only [List.getElem_toArray, List.getElem_cons_zero, List.getElem_cons_succ, Act.put, List.setIfInBounds_toArray, List.set_cons_zero, List.set_cons_succ])
          refine wpAnyH_take (i := 7) (v := .int .i64 ((y : Nat) : Int)) rfl (by kernel_rfl) (by kernel_rfl) (by kernel_rfl) (fun _ _ _ h => h) (yieldsIf_addS EY.out (by rfl) _ _ rfl rfl rfl) hH ?_
          (try simp only [List.getElem_toArray, List.getElem_cons_zero, List.getElem_cons_succ, Act.put, List.setIfInBounds_toArray, List.set_cons_zero, List.set_cons_succ])
          refine wpAnyH_take (i := 8) (v := .pointer (some ⟨g, 0 + y * 4, none⟩)) rfl (by kernel_rfl) (by kernel_rfl) (by kernel_rfl) (fun _ _ _ h => h) (yieldsIf_indexC (k := y) Try.underlying71 szCd (by rfl) _ _ rfl rfl rfl HYN.out) hH ?_
          (try simp only [List.getElem_toArray, List.getElem_cons_zero, List.getElem_cons_succ, Act.put, List.setIfInBounds_toArray, List.set_cons_zero, List.set_cons_succ])
          refine wpAnyH_take (i := 10) (v := .slice (some ⟨g, 0, none⟩) n n) rfl (by kernel_rfl) (by kernel_rfl) (by kernel_rfl) (fun _ _ _ h => h) (.inl ⟨by rfl, fun _ _ => by kernel_rfl⟩) hH ?_
          (try simp only [List.getElem_toArray, List.getElem_cons_zero, List.getElem_cons_succ, Act.put, List.setIfInBounds_toArray, List.set_cons_zero, List.set_cons_succ])
          refine wpAnyH_take (i := 11) (v := .int .i64 ((k : Nat) : Int)) rfl (by kernel_rfl) (by kernel_rfl) (by kernel_rfl) (fun _ _ _ h => h) (.inl ⟨by rfl, fun _ _ => by kernel_rfl⟩) hH ?_
          (try simp only [List.getElem_toArray, List.getElem_cons_zero, List.getElem_cons_succ, Act.put, List.setIfInBounds_toArray, List.set_cons_zero, List.set_cons_succ])
          refine wpAnyH_take (i := 12) (v := .pointer (some ⟨g, 0 + k * 4, none⟩)) rfl (by kernel_rfl) (by kernel_rfl) (by kernel_rfl) (fun _ _ _ h => h) (yieldsIf_indexC (k := k) Try.underlying71 szCd (by rfl) _ _ rfl rfl rfl HKN.out) hH ?_
          (try simp only [List.getElem_toArray, List.getElem_cons_zero, List.getElem_cons_succ, Act.put, List.setIfInBounds_toArray, List.set_cons_zero, List.set_cons_succ])
          refine wpAnyH_all (rs := [9, 13]) (by kernel_rfl) (by simp) (fun i9 hi9 => ?_)
          rcases (by simpa using hi9 : i9 = 9 ∨ i9 = 13) with rfl | rfl
          · refine wpOp_value (w' := W) (f y).v (by rfl) (by kernel_rfl) (exec_loadK (by rfl) (by rfl) (HSW.out.load HYN.out)) ⟨hH, ?_⟩
            (try simp only [List.getElem_toArray, List.getElem_cons_zero, List.getElem_cons_succ, Act.put, List.setIfInBounds_toArray, List.set_cons_zero, List.set_cons_succ])
            refine wpAnyH_value 13 (f k).v (by kernel_rfl) (by rfl) (by kernel_rfl) (exec_loadK (by rfl) (by rfl) (HSW.out.load HKN.out)) hH ?_
            (try simp only [List.getElem_toArray, List.getElem_cons_zero, List.getElem_cons_succ, Act.put, List.setIfInBounds_toArray, List.set_cons_zero, List.set_cons_succ])
            refine wpAnyH_take (i := 14) (v := .pointer (some ⟨g, 0 + k * 4, none⟩)) rfl (by kernel_rfl) (by kernel_rfl) (by kernel_rfl) (fun _ _ _ h => h) (yieldsIf_indexC (k := k) Try.underlying71 szCd (by rfl) _ _ rfl rfl rfl HKN.out) hH ?_
            (try simp only [List.getElem_toArray, List.getElem_cons_zero, List.getElem_cons_succ, Act.put, List.setIfInBounds_toArray, List.set_cons_zero, List.set_cons_succ])
            have hH3 : Tch (fun k => k = g) wr (W.setCells g (k * 4) (f y).cells.toList) := Tch.setCells (S := fun k => k = g) rfl _ _ _ hH
            refine wpAnyH_store 15 _ _ _ (by kernel_rfl) (by rfl) (by kernel_rfl) (by rfl) (by rfl) (by rfl) (HSW.out.store (f y) HKN.out) hH3 ?_
            (try simp only [List.getElem_toArray, List.getElem_cons_zero, List.getElem_cons_succ, Act.put])
            refine wpAnyH_take (i := 16) (v := .pointer (some ⟨g, 0 + y * 4, none⟩)) rfl (by kernel_rfl) (by kernel_rfl) (by kernel_rfl) (fun _ _ _ h => h) (yieldsIf_indexC (k := y) Try.underlying71 szCd (by rfl) _ _ rfl rfl rfl HYN.out) hH3 ?_
            (try simp only [List.getElem_toArray, List.getElem_cons_zero, List.getElem_cons_succ, Act.put, List.setIfInBounds_toArray, List.set_cons_zero, List.set_cons_succ])
            refine wpAnyH_store 17 _ _ _ (by kernel_rfl) (by rfl) (by kernel_rfl) (by rfl) (by rfl) (by rfl) ((HSW.out.set (f y) HKN.out).store (f k) HYN.out) (Tch.setCells (S := fun k => k = g) rfl _ _ _ hH3) ?_
            (try simp only [List.getElem_toArray, List.getElem_cons_zero, List.getElem_cons_succ, Act.put])
            refine wpAnyH_done (by kernel_rfl) ?_ _
            have HSV := Lib.hid (HSW.out.sw HKN.out HYN.out)
            have HTV : Hid (Tch (fun k => k = g) wr ((W.setCells g (k * 4) (f y).cells.toList).setCells g (y * 4) (f k).cells.toList)) := Tch.setCells (S := fun k => k = g) rfl ((f k).cells.toList) (y * 4) _ hH3
            clear hH hH3 HSW
            rw [HN.out] at HSV
            go_wp2_with fail
            go_roundw
            case rel => exact ⟨y, hya, hyi, congrArg (Value.int .i64) EW.out, HSV, HP2, Lib.hid (HT.out.trans HTV.out (fun _ q => .inl q))⟩
            case measure => have hky := HKY.out; simp [intOf]; omega
          · refine wpOp_value (w' := W) (f k).v (by rfl) (by kernel_rfl) (exec_loadK (by rfl) (by rfl) (HSW.out.load HKN.out)) ⟨hH, ?_⟩
            (try simp only [List.getElem_toArray, List.getElem_cons_zero, List.getElem_cons_succ, Act.put, List.setIfInBounds_toArray, List.set_cons_zero, List.set_cons_succ])
            refine wpAnyH_value 9 (f y).v (by kernel_rfl) (by rfl) (by kernel_rfl) (exec_loadK (by rfl) (by rfl) (HSW.out.load HYN.out)) hH ?_
            (try simp only [List.getElem_toArray, List.getElem_cons_zero, List.getElem_cons_succ, Act.put, List.setIfInBounds_toArray, List.set_cons_zero, List.set_cons_succ])
            refine wpAnyH_take (i := 14) (v := .pointer (some ⟨g, 0 + k * 4, none⟩)) rfl (by kernel_rfl) (by kernel_rfl) (by kernel_rfl) (fun _ _ _ h => h) (yieldsIf_indexC (k := k) Try.underlying71 szCd (by rfl) _ _ rfl rfl rfl HKN.out) hH ?_
            (try simp only [List.getElem_toArray, List.getElem_cons_zero, List.getElem_cons_succ, Act.put, List.setIfInBounds_toArray, List.set_cons_zero, List.set_cons_succ])
            have hH3 : Tch (fun k => k = g) wr (W.setCells g (k * 4) (f y).cells.toList) := Tch.setCells (S := fun k => k = g) rfl _ _ _ hH
            refine wpAnyH_store 15 _ _ _ (by kernel_rfl) (by rfl) (by kernel_rfl) (by rfl) (by rfl) (by rfl) (HSW.out.store (f y) HKN.out) hH3 ?_
            (try simp only [List.getElem_toArray, List.getElem_cons_zero, List.getElem_cons_succ, Act.put])
            refine wpAnyH_take (i := 16) (v := .pointer (some ⟨g, 0 + y * 4, none⟩)) rfl (by kernel_rfl) (by kernel_rfl) (by kernel_rfl) (fun _ _ _ h => h) (yieldsIf_indexC (k := y) Try.underlying71 szCd (by rfl) _ _ rfl rfl rfl HYN.out) hH3 ?_
            (try simp only [List.getElem_toArray, List.getElem_cons_zero, List.getElem_cons_succ, Act.put, List.setIfInBounds_toArray, List.set_cons_zero, List.set_cons_succ])
            refine wpAnyH_store 17 _ _ _ (by kernel_rfl) (by rfl) (by kernel_rfl) (by rfl) (by rfl) (by rfl) ((HSW.out.set (f y) HKN.out).store (f k) HYN.out) (Tch.setCells (S := fun k => k = g) rfl _ _ _ hH3) ?_
            (try simp only [List.getElem_toArray, List.getElem_cons_zero, List.getElem_cons_succ, Act.put])
            refine wpAnyH_done (by kernel_rfl) ?_ _
            have HSV := Lib.hid (HSW.out.sw HKN.out HYN.out)
            have HTV : Hid (Tch (fun k => k = g) wr ((W.setCells g (k * 4) (f y).cells.toList).setCells g (y * 4) (f k).cells.toList)) := Tch.setCells (S := fun k => k = g) rfl ((f k).cells.toList) (y * 4) _ hH3
            clear hH hH3 HSW
            rw [HN.out] at HSV
            go_wp2_with fail
            go_roundw
            case rel => exact ⟨y, hya, hyi, congrArg (Value.int .i64) EW.out, HSV, HP2, Lib.hid (HT.out.trans HTV.out (fun _ q => .inl q))⟩
            case measure => have hky := HKY.out; simp [intOf]; omega
        · have t1 : decide ((k : Int) < (i : Int) - 1) = false := by simp; omega
          obtain rfl : k + 1 = i := by omega
          have HF := Lib.hid (SyR.mk' HS0.out HFI.out HP.out HFS.out HT.out)
          go_wp2_with fail
          go_end0
          exact HF.out
set_option maxRecDepth 100000 in
set_option maxHeartbeats 8000000 in
theorem sy_m2 (lt : Cd → Cd → Bool) (hc : CmpOk lt) (g n a m b : Nat) (f0 : Nat → Cd) (w : World) (h : HdC w g n f0) (ham : a + 1 < m) (hmb : b = m + 1) (hbn : b ≤ n) (hn : n ≤ 1048576) (h1 : Srt (leC lt) f0 a m) :
    Calls Try.prog 82 #[.slice (some ⟨g, 0, none⟩) n n, .int .i64 (a : Nat), .int .i64 (m : Nat), .int .i64 (b : Nat), fvC] w (SyR lt g n a b f0 w) := by
  have HH := Lib.hid h
  have HC := Lib.hid hc
  have HO := Lib.hid h1
  have HMB := Lib.hid hmb
  have hml : m < b := by omega
  have t0 : ((m : Int) - (a : Int) == 1) = false := by rw [beq_eq_false_iff_ne]; omega
  have t9 : ((b : Int) - (m : Int) == 1) = true := by rw [beq_iff_eq]; omega
  clear h hc h1 hmb
  unfold fvC
  go_enter Try.func82, Try.ntmps82
  go_wp2_with fail
  clear t0 t9
  go_loopw [14, 15, 16] (fun s10 s11 _ wr => ∃ i j : Nat, s10 = .int .i64 i ∧ s11 = .int .i64 j ∧ Hid (SeaI (leC lt) f0 (f0 m) a m i j) ∧ Hid (HdC wr g n f0) ∧ Hid (Tch (fun k => k = g) w wr)) (fun s10 s11 _ _ => (intOf s11).toNat - (intOf s10).toNat)
  case atStart => exact ⟨a, m, rfl, rfl, SeaI.start _ _ (by omega), HH, Tch.refl _ _⟩
  case round =>
    obtain ⟨i, j, rfl, rfl, HSE, HS, HT⟩ := hrel
    have q1 := HSE.out.b1
    have q2 := HSE.out.b2
    have q3 := HSE.out.b3
    by_cases hlt : i < j
    · go_upto_region 17 with fail
      obtain ⟨h, hh⟩ : ∃ h, (i + j) / 2 = h := ⟨_, rfl⟩
      have EH : ((i : Int) + (j : Int)) / 2 = ((h : Nat) : Int) := by omega
      (try simp only [EH])
      have hih : i ≤ h := by omega
      have hhj : h < j := by omega
      have HHN : Hid (h < n) := by show _ < _; omega
      have HMN : Hid (m < n) := by show _ < _; omega
      clear EH hh
      cases hl : lt (f0 m) (f0 h) with
      | true =>
        have LT := Lib.hid hl
        have HSE2 := Lib.hid (HSE.out.down HC.out.tr' HO.out hih hhj (HC.out.asy _ _ hl))
        clear hl
        refine wp_region_held_drew (S := fun w' => Below wr.heap.size wr w') (by kernel_rfl) (below_drewN (Below.refl _ _) 1) (fun hH => ?_)
        refine wpAnyH_take (i := 0) (v := .func (.func 63) #[] #[]) rfl (by kernel_rfl) (by kernel_rfl) (by kernel_rfl) (fun _ _ _ h => h) (.inl ⟨by rfl, fun _ _ => by kernel_rfl⟩) hH ?_
        (try simp only [List.getElem_toArray, List.getElem_cons_zero, Act.put, List.setIfInBounds_toArray, List.set_cons_zero, List.set_cons_succ])
        refine wpAnyH_take (i := 1) (v := .slice (some ⟨g, 0, none⟩) n n) rfl (by kernel_rfl) (by kernel_rfl) (by kernel_rfl) (fun _ _ _ h => h) (.inl ⟨by rfl, fun _ _ => by kernel_rfl⟩) hH ?_
        (try simp only [List.getElem_toArray, List.getElem_cons_zero, List.getElem_cons_succ, Act.put, List.setIfInBounds_toArray, List.set_cons_zero, List.set_cons_succ])
        refine wpAnyH_take (i := 2) (v := .int .i64 ((m : Nat) : Int)) rfl (by kernel_rfl) (by kernel_rfl) (by kernel_rfl) (fun _ _ _ h => h) (.inl ⟨by rfl, fun _ _ => by kernel_rfl⟩) hH ?_
        (try simp only [List.getElem_toArray, List.getElem_cons_zero, List.getElem_cons_succ, Act.put, List.setIfInBounds_toArray, List.set_cons_zero, List.set_cons_succ])
        refine wpAnyH_take (i := 3) (v := .pointer (some ⟨g, 0 + m * 4, none⟩)) rfl (by kernel_rfl) (by kernel_rfl) (by kernel_rfl) (fun _ _ _ h => h) (yieldsIf_indexC (k := m) Try.underlying71 szCd (by rfl) _ _ rfl rfl rfl HMN.out) hH ?_
        (try simp only [List.getElem_toArray, List.getElem_cons_zero, List.getElem_cons_succ, Act.put, List.setIfInBounds_toArray, List.set_cons_zero, List.set_cons_succ])
        refine wpAnyH_take (i := 4) (v := (f0 m).v) rfl (by kernel_rfl) (by kernel_rfl) (by kernel_rfl) (fun _ _ _ h => h) (yieldsIf_loadP (by rfl) _ rfl rfl (fun _ s => (HS.out.bel s).load HMN.out)) hH ?_
        (try simp only [List.getElem_toArray, List.getElem_cons_zero, List.getElem_cons_succ, Act.put, List.setIfInBounds_toArray, List.set_cons_zero, List.set_cons_succ])
        refine wpAnyH_take (i := 5) (v := .slice (some ⟨g, 0, none⟩) n n) rfl (by kernel_rfl) (by kernel_rfl) (by kernel_rfl) (fun _ _ _ h => h) (.inl ⟨by rfl, fun _ _ => by kernel_rfl⟩) hH ?_
        (try simp only [List.getElem_toArray, List.getElem_cons_zero, List.getElem_cons_succ, Act.put, List.setIfInBounds_toArray, List.set_cons_zero, List.set_cons_succ])
        refine wpAnyH_take (i := 6) (v := .int .i64 ((h : Nat) : Int)) rfl (by kernel_rfl) (by kernel_rfl) (by kernel_rfl) (fun _ _ _ h => h) (.inl ⟨by rfl, fun _ _ => by kernel_rfl⟩) hH ?_
        (try simp only [List.getElem_toArray, List.getElem_cons_zero, List.getElem_cons_succ, Act.put, List.setIfInBounds_toArray, List.set_cons_zero, List.set_cons_succ])
        refine wpAnyH_take (i := 7) (v := .pointer (some ⟨g, 0 + h * 4, none⟩)) rfl (by kernel_rfl) (by kernel_rfl) (by kernel_rfl) (fun _ _ _ h => h) (yieldsIf_indexC (k := h) Try.underlying71 szCd (by rfl) _ _ rfl rfl rfl HHN.out) hH ?_
        (try simp only [List.getElem_toArray, List.getElem_cons_zero, List.getElem_cons_succ, Act.put, List.setIfInBounds_toArray, List.set_cons_zero, List.set_cons_succ])
        refine wpAnyH_take (i := 8) (v := (f0 h).v) rfl (by kernel_rfl) (by kernel_rfl) (by kernel_rfl) (fun _ _ _ h => h) (yieldsIf_loadP (by rfl) _ rfl rfl (fun _ s => (HS.out.bel s).load HHN.out)) hH ?_
        (try simp only [List.getElem_toArray, List.getElem_cons_zero, List.getElem_cons_succ, Act.put, List.setIfInBounds_toArray, List.set_cons_zero, List.set_cons_succ])
        refine wpAnyH_call 9 63 #[(f0 m).v, (f0 h).v] _ (by kernel_rfl) (by rfl) (by kernel_rfl) (by kernel_rfl) (HC.out.cmp _ _ _) ?_
        rintro e Z1 ⟨r, rfl, hr, hb1⟩
        have h1 : Below wr.heap.size wr Z1 := hH.trans (hb1.mono hH.size)
        rw [LT.out] at hr
        refine ⟨_, rfl, h1, ?_⟩
        (try simp only [List.getElem_toArray, List.getElem_cons_zero, List.getElem_cons_succ, Act.put, List.setIfInBounds_toArray, List.set_cons_zero, List.set_cons_succ])
        refine wpAnyH_take (i := 10) (v := .bool true) rfl (by kernel_rfl) (by kernel_rfl) (by kernel_rfl) (fun _ _ _ h => h) (yieldsIf_lssS hr (by rfl) _ _ rfl rfl rfl) h1 ?_
        (try simp only [List.getElem_toArray, List.getElem_cons_zero, List.getElem_cons_succ, Act.put, List.setIfInBounds_toArray, List.set_cons_zero, List.set_cons_succ])
        refine wpAnyH_take (i := 11) (v := .bool false) rfl (by kernel_rfl) (by kernel_rfl) (by kernel_rfl) (fun _ _ _ h => h) (.inl ⟨by rfl, fun _ _ => by kernel_rfl⟩) h1 ?_
        (try simp only [List.getElem_toArray, List.getElem_cons_zero, List.getElem_cons_succ, Act.put, List.setIfInBounds_toArray, List.set_cons_zero, List.set_cons_succ])
        refine wpAnyH_done (by kernel_rfl) ?_ _
        have H1 := Lib.hid h1
        clear hH h1 hb1 hr
        go_wp2_with fail
        go_roundw
        case rel => exact ⟨i, h, rfl, rfl, HSE2, Lib.hid (HS.out.bel H1.out), Lib.hid (HT.out.trans (Tch.of_below H1.out) (fun _ q => .inl q))⟩
        case measure => simp [intOf]; omega
      | false =>
        have LT := Lib.hid hl
        have HSE2 := Lib.hid (HSE.out.up HC.out.tr' HO.out hih hhj hl)
        clear hl
        refine wp_region_held_drew (S := fun w' => Below wr.heap.size wr w') (by kernel_rfl) (below_drewN (Below.refl _ _) 1) (fun hH => ?_)
        refine wpAnyH_take (i := 0) (v := .func (.func 63) #[] #[]) rfl (by kernel_rfl) (by kernel_rfl) (by kernel_rfl) (fun _ _ _ h => h) (.inl ⟨by rfl, fun _ _ => by kernel_rfl⟩) hH ?_
        (try simp only [List.getElem_toArray, List.getElem_cons_zero, Act.put, List.setIfInBounds_toArray, List.set_cons_zero, List.set_cons_succ])
        refine wpAnyH_take (i := 1) (v := .slice (some ⟨g, 0, none⟩) n n) rfl (by kernel_rfl) (by kernel_rfl) (by kernel_rfl) (fun _ _ _ h => h) (.inl ⟨by rfl, fun _ _ => by kernel_rfl⟩) hH ?_
        (try simp only [List.getElem_toArray, List.getElem_cons_zero, List.getElem_cons_succ, Act.put, List.setIfInBounds_toArray, List.set_cons_zero, List.set_cons_succ])
        refine wpAnyH_take (i := 2) (v := .int .i64 ((m : Nat) : Int)) rfl (by kernel_rfl) (by kernel_rfl) (by kernel_rfl) (fun _ _ _ h => h) (.inl ⟨by rfl, fun _ _ => by kernel_rfl⟩) hH ?_
        (try simp only [List.getElem_toArray, List.getElem_cons_zero, List.getElem_cons_succ, Act.put, List.setIfInBounds_toArray, List.set_cons_zero, List.set_cons_succ])
        refine wpAnyH_take (i := 3) (v := .pointer (some ⟨g, 0 + m * 4, none⟩)) rfl (by kernel_rfl) (by kernel_rfl) (by kernel_rfl) (fun _ _ _ h => h) (yieldsIf_indexC (k := m) Try.underlying71 szCd (by rfl) _ _ rfl rfl rfl HMN.out) hH ?_
        (try simp only [List.getElem_toArray, List.getElem_cons_zero, List.getElem_cons_succ, Act.put, List.setIfInBounds_toArray, List.set_cons_zero, List.set_cons_succ])
        refine wpAnyH_take (i := 4) (v := (f0 m).v) rfl (by kernel_rfl) (by kernel_rfl) (by kernel_rfl) (fun _ _ _ h => h) (yieldsIf_loadP (by rfl) _ rfl rfl (fun _ s => (HS.out.bel s).load HMN.out)) hH ?_
        (try simp only [List.getElem_toArray, List.getElem_cons_zero, List.getElem_cons_succ, Act.put, List.setIfInBounds_toArray, List.set_cons_zero, List.set_cons_succ])
        refine wpAnyH_take (i := 5) (v := .slice (some ⟨g, 0, none⟩) n n) rfl (by kernel_rfl) (by kernel_rfl) (by kernel_rfl) (fun _ _ _ h => h) (.inl ⟨by rfl, fun _ _ => by kernel_rfl⟩) hH ?_
        (try simp only [List.getElem_toArray, List.getElem_cons_zero, List.getElem_cons_succ, Act.put, List.setIfInBounds_toArray, List.set_cons_zero, List.set_cons_succ])
        refine wpAnyH_take (i := 6) (v := .int .i64 ((h : Nat) : Int)) rfl (by kernel_rfl) (by kernel_rfl) (by kernel_rfl) (fun _ _ _ h => h) (.inl ⟨by rfl, fun _ _ => by kernel_rfl⟩) hH ?_
        (try simp only [List.getElem_toArray, List.getElem_cons_zero, List.getElem_cons_succ, Act.put, List.setIfInBounds_toArray, List.set_cons_zero, List.set_cons_succ])
        refine wpAnyH_take (i := 7) (v := .pointer (some ⟨g, 0 + h * 4, none⟩)) rfl (by kernel_rfl) (by kernel_rfl) (by kernel_rfl) (fun _ _ _ h => h) (yieldsIf_indexC (k := h) Try.underlying71 szCd (by rfl) _ _ rfl rfl rfl HHN.out) hH ?_
        (try simp only [List.getElem_toArray, List.getElem_cons_zero, List.getElem_cons_succ, Act.put, List.setIfInBounds_toArray, List.set_cons_zero, List.set_cons_succ])
        refine wpAnyH_take (i := 8) (v := (f0 h).v) rfl (by kernel_rfl) (by kernel_rfl) (by kernel_rfl) (fun _ _ _ h => h) (yieldsIf_loadP (by rfl) _ rfl rfl (fun _ s => (HS.out.bel s).load HHN.out)) hH ?_
        (try simp only [List.getElem_toArray, List.getElem_cons_zero, List.getElem_cons_succ, Act.put, List.setIfInBounds_toArray, List.set_cons_zero, List.set_cons_succ])
        refine wpAnyH_call 9 63 #[(f0 m).v, (f0 h).v] _ (by kernel_rfl) (by rfl) (by kernel_rfl) (by kernel_rfl) (HC.out.cmp _ _ _) ?_
        rintro e Z1 ⟨r, rfl, hr, hb1⟩
        have h1 : Below wr.heap.size wr Z1 := hH.trans (hb1.mono hH.size)
        rw [LT.out] at hr
        refine ⟨_, rfl, h1, ?_⟩
        (try simp only [List.getElem_toArray, List.getElem_cons_zero, List.getElem_cons_succ, Act.put, List.setIfInBounds_toArray, List.set_cons_zero, List.set_cons_succ])
        refine wpAnyH_take (i := 10) (v := .bool false) rfl (by kernel_rfl) (by kernel_rfl) (by kernel_rfl) (fun _ _ _ h => h) (yieldsIf_lssS hr (by rfl) _ _ rfl rfl rfl) h1 ?_
        (try simp only [List.getElem_toArray, List.getElem_cons_zero, List.getElem_cons_succ, Act.put, List.setIfInBounds_toArray, List.set_cons_zero, List.set_cons_succ])
        refine wpAnyH_take (i := 11) (v := .bool true) rfl (by kernel_rfl) (by kernel_rfl) (by kernel_rfl) (fun _ _ _ h => h) (.inl ⟨by rfl, fun _ _ => by kernel_rfl⟩) h1 ?_
        (try simp only [List.getElem_toArray, List.getElem_cons_zero, List.getElem_cons_succ, Act.put, List.setIfInBounds_toArray, List.set_cons_zero, List.set_cons_succ])
        refine wpAnyH_done (by kernel_rfl) ?_ _
        have H1 := Lib.hid h1
        clear hH h1 hb1 hr
        go_wp2_with fail
        go_roundw
        case rel => exact ⟨h + 1, j, by go_num, rfl, HSE2, Lib.hid (HS.out.bel H1.out), Lib.hid (HT.out.trans (Tch.of_below H1.out) (fun _ q => .inl q))⟩
        case measure => simp [intOf]; omega
    · obtain rfl : i = j := by omega
      obtain ⟨wo, rfl⟩ : ∃ wo : World, wo = wr := ⟨_, rfl⟩
      have HFS : Hid (Srt (leC lt) (roF f0 i m (m + 1)) a b) := by
        show Srt _ _ _ _
        rw [HMB.out]
        exact ins2_law HC.out.tr' HO.out q1 q3 HSE.out.l HSE.out.r
      have HFI : Hid (Into f0 (roF f0 i m (m + 1)) a b) := (Into.ro q3 (by omega)).wide q1 (by have := HMB.out; omega)
      have HS1 : Hid (HdC wo g n (roF f0 m m (m + 1))) := by show HdC _ _ _ _; rw [roF_nil1]; exact HS.out
      have HP1 : Hid ((asL (roF f0 m m (m + 1)) n).Perm (asL f0 n)) := by show List.Perm _ _; rw [roF_nil1]
      have HTO := HT
      clear HS HT HSE
      go_wp2_with fail
      go_loopw [17] (fun s17 wr => ∃ k : Nat, i ≤ k ∧ k ≤ m ∧ s17 = .int .i64 k ∧ Hid (HdC wr g n (roF f0 k m (m + 1))) ∧ Hid ((asL (roF f0 k m (m + 1)) n).Perm (asL f0 n)) ∧ Hid (Tch (fun k => k = g) w wr)) (fun s17 _ => (intOf s17).toNat)
      case atStart => exact ⟨m, q3, Nat.le_refl _, rfl, HS1, HP1, HTO⟩
      case round =>
        clear HS1 HP1 HTO
        obtain ⟨k, hk1, hk2, rfl, HS0, HP, HT⟩ := hrel
        by_cases hlt2 : i < k
        · go_upto_region 23 with fail
          obtain ⟨p, hp⟩ : ∃ p, k - 1 = p := ⟨_, rfl⟩
          obtain ⟨f, hf⟩ : ∃ f, roF f0 k m (m + 1) = f := ⟨_, rfl⟩
          have HN : Hid (swF f k p = roF f0 p m (m + 1)) := by show _ = _; rw [← hf, ← hp]; exact roF_dn f0 (by omega) hk2
          rw [hf] at HS0 HP
          have HS := HS0
          have EP := Lib.hid (show IntKind.i64.wrap (((k : Nat) : Int) - 1) = ((p : Nat) : Int) from wi_nat (by omega) (by omega))
          have HKN : Hid (k < n) := by show _ < _; omega
          have HPN : Hid (p < n) := by show _ < _; omega
          have HP2 : Hid ((asL (roF f0 p m (m + 1)) n).Perm (asL f0 n)) := by show List.Perm _ _; rw [← HN.out]; exact (asL_sw HKN.out HPN.out).trans HP.out
          have hpi : i ≤ p := by omega
          have hpm : p ≤ m := by omega
          have hpk : p < k := by omega
          have EW : Hid (((k : Nat) : Int) - 1 = ((p : Nat) : Int)) := by show _ = _; omega
          clear hf hp HP HS0
          refine wp_region_held_drew (S := fun w' => Tch (fun k => k = g) wr w') (by kernel_rfl) ((Tch.refl _ wr).drewN 1) (fun hH => ?_)
          obtain ⟨W, hW⟩ : ∃ q, wr.drew = q := ⟨_, rfl⟩
          have HSW : Hid (HdC W g n f) := by show HdC _ _ _ _; rw [← hW]; exact HS.out.bel (below_drewN (Below.refl _ wr) 1)
          rw [hW] at hH ⊢
          clear hW
          refine wpAnyH_take (i := 0) (v := .slice (some ⟨g, 0, none⟩) n n) rfl (by kernel_rfl) (by kernel_rfl) (by kernel_rfl) (fun _ _ _ h => h) (.inl ⟨by rfl, fun _ _ => by kernel_rfl⟩) hH ?_
          (try simp only [List.getElem_toArray, List.getElem_cons_zero, Act.put, List.setIfInBounds_toArray, List.set_cons_zero, List.set_cons_succ])
          refine wpAnyH_take (i := 1) (v := .int .i64 ((k : Nat) : Int)) rfl (by kernel_rfl) (by kernel_rfl) (by kernel_rfl) (fun _ _ _ h => h) (.inl ⟨by rfl, fun _ _ => by kernel_rfl⟩) hH ?_
          (try simp only [List.getElem_toArray, List.getElem_cons_zero, List.getElem_cons_succ, Act.put, List.setIfInBounds_toArray, List.set_cons_zero, List.set_cons_succ])
          refine wpAnyH_take (i := 2) (v := .slice (some ⟨g, 0, none⟩) n n) rfl (by kernel_rfl) (by kernel_rfl) (by kernel_rfl) (fun _ _ _ h => h) (.inl ⟨by rfl, fun _ _ => by kernel_rfl⟩) hH ?_
          (try simp only [List.getElem_toArray, List.getElem_cons_zero, List.getElem_cons_succ, Act.put, List.setIfInBounds_toArray, List.set_cons_zero, List.set_cons_succ])
          refine wpAnyH_take (i := 3) (v := .int .i64 ((k : Nat) : Int)) rfl (by kernel_rfl) (by kernel_rfl) (by kernel_rfl) (fun _ _ _ h => h) (.inl ⟨by rfl, fun _ _ => by kernel_rfl⟩) hH ?_
          (try simp only [List.getElem_toArray, List.getElem_cons_zero, List.getElem_cons_succ, Act.put, List.setIfInBounds_toArray, List.set_cons_zero, List.set_cons_succ])
          refine wpAnyH_take (i := 4) (v := .int .i64 ((p : Nat) : Int)) rfl (by kernel_rfl) (by kernel_rfl) (by kernel_rfl) (fun _ _ _ h => h) (yieldsIf_subS EP.out (by rfl) _ _ rfl rfl rfl) hH ?_
          (try simp only [List.getElem_toArray, List.getElem_cons_zero, List.getElem_cons_succ, Act.put, List.setIfInBounds_toArray, List.set_cons_zero, List.set_cons_succ])
          refine wpAnyH_take (i := 5) (v := .slice (some ⟨g, 0, none⟩) n n) rfl (by kernel_rfl) (by kernel_rfl) (by kernel_rfl) (fun _ _ _ h => h) (.inl ⟨by rfl, fun _ _ => by kernel_rfl⟩) hH ?_
          (try simp only [List.getElem_toArray, List.getElem_cons_zero, List.getElem_cons_succ, Act.put, List.setIfInBounds_toArray, List.set_cons_zero, List.set_cons_succ])
          refine wpAnyH_take (i := 6) (v := .int .i64 ((k : Nat) : Int)) rfl (by kernel_rfl) (by kernel_rfl) (by kernel_rfl) (fun _ _ _ h => h) (.inl ⟨by rfl, fun _ _ => by kernel_rfl⟩) hH ?_
          (try simp only [List.getElem_toArray, List.getElem_cons_zero, List.getElem_cons_succ, Act.put, List.setIfInBounds_toArray, List.set_cons_zero, List.set_cons_succ])
          refine wpAnyH_take (i := 7) (v := .int .i64 ((p : Nat) : Int)) rfl (by kernel_rfl) (by kernel_rfl) (by kernel_rfl) (fun _ _ _ h => h) (yieldsIf_subS EP.out (by rfl) _ _ rfl rfl rfl) hH ?_
          (try simp only [List.getElem_toArray, List.getElem_cons_zero, List.getElem_cons_succ, Act.put, List.setIfInBounds_toArray, List.set_cons_zero, List.set_cons_succ])
          refine wpAnyH_take (i := 8) (v := .pointer (some ⟨g, 0 + p * 4, none⟩)) rfl (by kernel_rfl) (by kernel_rfl) (by kernel_rfl) (fun _ _ _ h => h) (yieldsIf_indexC (k := p) Try.underlying71 szCd (by rfl) _ _ rfl rfl rfl HPN.out) hH ?_
          (try simp only [List.getElem_toArray, List.getElem_cons_zero, List.getElem_cons_succ, Act.put, List.setIfInBounds_toArray, List.set_cons_zero, List.set_cons_succ])
          refine wpAnyH_take (i := 10) (v := .slice (some ⟨g, 0, none⟩) n n) rfl (by kernel_rfl) (by kernel_rfl) (by kernel_rfl) (fun _ _ _ h => h) (.inl ⟨by rfl, fun _ _ => by kernel_rfl⟩) hH ?_
          (try simp only [List.getElem_toArray, List.getElem_cons_zero, List.getElem_cons_succ, Act.put, List.setIfInBounds_toArray, List.set_cons_zero, List.set_cons_succ])
          refine wpAnyH_take (i := 11) (v := .int .i64 ((k : Nat) : Int)) rfl (by kernel_rfl) (by kernel_rfl) (by kernel_rfl) (fun _ _ _ h => h) (.inl ⟨by rfl, fun _ _ => by kernel_rfl⟩) hH ?_
          (try simp only [List.getElem_toArray, List.getElem_cons_zero, List.getElem_cons_succ, Act.put, List.setIfInBounds_toArray, List.set_cons_zero, List.set_cons_succ])
          refine wpAnyH_take (i := 12) (v := .pointer (some ⟨g, 0 + k * 4, none⟩)) rfl (by kernel_rfl) (by kernel_rfl) (by kernel_rfl) (fun _ _ _ h => h) (yieldsIf_indexC (k := k) Try.underlying71 szCd (by rfl) _ _ rfl rfl rfl HKN.out) hH ?_
          (try simp only [List.getElem_toArray, List.getElem_cons_zero, List.getElem_cons_succ, Act.put, List.setIfInBounds_toArray, List.set_cons_zero, List.set_cons_succ])
          refine wpAnyH_all (rs := [9, 13]) (by kernel_rfl) (by simp) (fun i9 hi9 => ?_)
          rcases (by simpa using hi9 : i9 = 9 ∨ i9 = 13) with rfl | rfl
          · refine wpOp_value (w' := W) (f p).v (by rfl) (by kernel_rfl) (exec_loadK (by rfl) (by rfl) (HSW.out.load HPN.out)) ⟨hH, ?_⟩
            (try simp only [List.getElem_toArray, List.getElem_cons_zero, List.getElem_cons_succ, Act.put, List.setIfInBounds_toArray, List.set_cons_zero, List.set_cons_succ])
            refine wpAnyH_value 13 (f k).v (by kernel_rfl) (by rfl) (by kernel_rfl) (exec_loadK (by rfl) (by rfl) (HSW.out.load HKN.out)) hH ?_
            (try simp only [List.getElem_toArray, List.getElem_cons_zero, List.getElem_cons_succ, Act.put, List.setIfInBounds_toArray, List.set_cons_zero, List.set_cons_succ])
            refine wpAnyH_take (i := 14) (v := .pointer (some ⟨g, 0 + k * 4, none⟩)) rfl (by kernel_rfl) (by kernel_rfl) (by kernel_rfl) (fun _ _ _ h => h) (yieldsIf_indexC (k := k) Try.underlying71 szCd (by rfl) _ _ rfl rfl rfl HKN.out) hH ?_
            (try simp only [List.getElem_toArray, List.getElem_cons_zero, List.getElem_cons_succ, Act.put, List.setIfInBounds_toArray, List.set_cons_zero, List.set_cons_succ])
            have hH3 : Tch (fun k => k = g) wr (W.setCells g (k * 4) (f p).cells.toList) := Tch.setCells (S := fun k => k = g) rfl _ _ _ hH
            refine wpAnyH_store 15 _ _ _ (by kernel_rfl) (by rfl) (by kernel_rfl) (by rfl) (by rfl) (by rfl) (HSW.out.store (f p) HKN.out) hH3 ?_
            (try simp only [List.getElem_toArray, List.getElem_cons_zero, List.getElem_cons_succ, Act.put])
            refine wpAnyH_take (i := 16) (v := .pointer (some ⟨g, 0 + p * 4, none⟩)) rfl (by kernel_rfl) (by kernel_rfl) (by kernel_rfl) (fun _ _ _ h => h) (yieldsIf_indexC (k := p) Try.underlying71 szCd (by rfl) _ _ rfl rfl rfl HPN.out) hH3 ?_
            (try simp only [List.getElem_toArray, List.getElem_cons_zero, List.getElem_cons_succ, Act.put, List.setIfInBounds_toArray, List.set_cons_zero, List.set_cons_succ])
            refine wpAnyH_store 17 _ _ _ (by kernel_rfl) (by rfl) (by kernel_rfl) (by rfl) (by rfl) (by rfl) ((HSW.out.set (f p) HKN.out).store (f k) HPN.out) (Tch.setCells (S := fun k => k = g) rfl _ _ _ hH3) ?_
            (try simp only [List.getElem_toArray, List.getElem_cons_zero, List.getElem_cons_succ, Act.put])
            refine wpAnyH_done (by kernel_rfl) ?_ _
            have HSV := Lib.hid (HSW.out.sw HKN.out HPN.out)
            have HTV : Hid (Tch (fun k => k = g) wr ((W.setCells g (k * 4) (f p).cells.toList).setCells g (p * 4) (f k).cells.toList)) := Tch.setCells (S := fun k => k = g) rfl ((f k).cells.toList) (p * 4) _ hH3
            clear hH hH3 HSW
            rw [HN.out] at HSV
            go_wp2_with fail
            go_roundw
            case rel => exact ⟨p, hpi, hpm, congrArg (Value.int .i64) EW.out, HSV, HP2, Lib.hid (HT.out.trans HTV.out (fun _ q => .inl q))⟩
            case measure => simp [intOf]; omega
          · refine wpOp_value (w' := W) (f k).v (by rfl) (by kernel_rfl) (exec_loadK (by rfl) (by rfl) (HSW.out.load HKN.out)) ⟨hH, ?_⟩
            (try simp only [List.getElem_toArray, List.getElem_cons_zero, List.getElem_cons_succ, Act.put, List.setIfInBounds_toArray, List.set_cons_zero, List.set_cons_succ])
            refine wpAnyH_value 9 (f p).v (by kernel_rfl) (by rfl) (by kernel_rfl) (exec_loadK (by rfl) (by rfl) (HSW.out.load HPN.out)) hH ?_
            (try simp only [List.getElem_toArray, List.getElem_cons_zero, List.getElem_cons_succ, Act.put, List.setIfInBounds_toArray, List.set_cons_zero, List.set_cons_succ])
            refine wpAnyH_take (i := 14) (v := .pointer (some ⟨g, 0 + k * 4, none⟩)) rfl (by kernel_rfl) (by kernel_rfl) (by kernel_rfl) (fun _ _ _ h => h) (yieldsIf_indexC (k := k) Try.underlying71 szCd (by rfl) _ _ rfl rfl rfl HKN.out) hH ?_
            (try simp only [List.getElem_toArray, List.getElem_cons_zero, List.getElem_cons_succ, Act.put, List.setIfInBounds_toArray, List.set_cons_zero, List.set_cons_succ])
            have hH3 : Tch (fun k => k = g) wr (W.setCells g (k * 4) (f p).cells.toList) := Tch.setCells (S := fun k => k = g) rfl _ _ _ hH
            refine wpAnyH_store 15 _ _ _ (by kernel_rfl) (by rfl) (by kernel_rfl) (by rfl) (by rfl) (by rfl) (HSW.out.store (f p) HKN.out) hH3 ?_
            (try simp only [List.getElem_toArray, List.getElem_cons_zero, List.getElem_cons_succ, Act.put])
            refine wpAnyH_take (i := 16) (v := .pointer (some ⟨g, 0 + p * 4, none⟩)) rfl (by kernel_rfl) (by kernel_rfl) (by kernel_rfl) (fun _ _ _ h => h) (yieldsIf_indexC (k := p) Try.underlying71 szCd (by rfl) _ _ rfl rfl rfl HPN.out) hH3 ?_
            (try simp only [List.getElem_toArray, List.getElem_cons_zero, List.getElem_cons_succ, Act.put, List.setIfInBounds_toArray, List.set_cons_zero, List.set_cons_succ])
            refine wpAnyH_store 17 _ _ _ (by kernel_rfl) (by rfl) (by kernel_rfl) (by rfl) (by rfl) (by rfl) ((HSW.out.set (f p) HKN.out).store (f k) HPN.out) (Tch.setCells (S := fun k => k = g) rfl _ _ _ hH3) ?_
            (try simp only [List.getElem_toArray, List.getElem_cons_zero, List.getElem_cons_succ, Act.put])
            refine wpAnyH_done (by kernel_rfl) ?_ _
            have HSV := Lib.hid (HSW.out.sw HKN.out HPN.out)
            have HTV : Hid (Tch (fun k => k = g) wr ((W.setCells g (k * 4) (f p).cells.toList).setCells g (p * 4) (f k).cells.toList)) := Tch.setCells (S := fun k => k = g) rfl ((f k).cells.toList) (p * 4) _ hH3
            clear hH hH3 HSW
            rw [HN.out] at HSV
            go_wp2_with fail
            go_roundw
            case rel => exact ⟨p, hpi, hpm, congrArg (Value.int .i64) EW.out, HSV, HP2, Lib.hid (HT.out.trans HTV.out (fun _ q => .inl q))⟩
            case measure => simp [intOf]; omega
        · obtain rfl : k = i := by omega
          have HF := Lib.hid (SyR.mk' HS0.out HFI.out HP.out HFS.out HT.out)
          go_wp2_with fail
          go_end0
          exact HF.out
end Go.Proofs.Ytpcbfoddlpgdjaa
