/- Candidates in a row of the call's own: two neighbours merged; the stable sort. Printed by genSyT.py. -/
import Derived.Test.YtpcbfoddlpgdjaaSyS
namespace Go.Proofs.Ytpcbfoddlpgdjaa
open Go.RowKit
/-- What a part of a sort has left, as far as it is. -/
def SyM (g n a b : Nat) (f : Nat → Cd) (w w' : World) (f' : Nat → Cd) : Prop := HdC w' g n f' ∧ Into f f' a b ∧ (asL f' n).Perm (asL f n) ∧ Tch (fun k => k = g) w w'
set_option maxRecDepth 100000 in
set_option maxHeartbeats 16000000 in
theorem sy_m3 (lt : Cd → Cd → Bool) (hc : CmpOk lt) (g n a m b : Nat) (f0 : Nat → Cd) (w : World) (h : HdC w g n f0) (ham : a + 1 < m) (hmb : m + 1 < b) (hbn : b ≤ n) (hn : n ≤ 1048576) (h1 : Srt (leC lt) f0 a m) (h2 : Srt (leC lt) f0 m b)
    (IH : ∀ (a' m' b' : Nat) (f : Nat → Cd) (W : World), b' - a' < b - a → HdC W g n f → a' < m' → m' < b' → b' ≤ n → Srt (leC lt) f a' m' → Srt (leC lt) f m' b' → Calls Try.prog 82 #[.slice (some ⟨g, 0, none⟩) n n, .int .i64 (a' : Nat), .int .i64 (m' : Nat), .int .i64 (b' : Nat), fvC] W (SyR lt g n a' b' f W)) :
    Calls Try.prog 82 #[.slice (some ⟨g, 0, none⟩) n n, .int .i64 (a : Nat), .int .i64 (m : Nat), .int .i64 (b : Nat), fvC] w (SyR lt g n a b f0 w) := by
  have HH := Lib.hid h
  have HC := Lib.hid hc
  have HO1 := Lib.hid h1
  have HO2 := Lib.hid h2
  have HIH := Lib.hid IH
  have HRO := Lib.hid (fun (a m b : Nat) (W : World) (h : HdC W g n f0) (ham : a < m) (hmb : m < b) (hbn : b ≤ n) => sy_rot g n a m b f0 W h ham hmb hbn hn)
  have t0 : ((m : Int) - (a : Int) == 1) = false := by rw [beq_eq_false_iff_ne]; omega
  have t9 : ((b : Int) - (m : Int) == 1) = false := by rw [beq_eq_false_iff_ne]; omega
  clear h hc h1 h2 IH
  unfold fvC at HIH HRO ⊢
  obtain ⟨mid, hmid⟩ : ∃ mid, (a + b) / 2 = mid := ⟨_, rfl⟩
  obtain ⟨nn, hnn⟩ : ∃ nn, mid + m = nn := ⟨_, rfl⟩
  obtain ⟨p, hp⟩ : ∃ p, nn - 1 = p := ⟨_, rfl⟩
  obtain ⟨s0, hs0⟩ : ∃ s0, (if mid < m then nn - b else a) = s0 := ⟨_, rfl⟩
  obtain ⟨r0, hr0⟩ : ∃ r0, (if mid < m then mid else m) = r0 := ⟨_, rfl⟩
  have EM : ((a : Int) + (b : Int)) / 2 = ((mid : Nat) : Int) := by omega
  have EN : ((mid : Nat) : Int) + (m : Int) = ((nn : Nat) : Int) := by omega
  have EP : ((nn : Nat) : Int) - 1 = ((p : Nat) : Int) := by omega
  have hs1 : s0 ≤ r0 := by rw [← hs0, ← hr0]; split <;> omega
  have hs2 : r0 ≤ m ∧ a ≤ s0 ∧ nn - s0 ≤ b := by
    rw [← hs0, ← hr0]
    split
    · exact ⟨by omega, by omega, by omega⟩
    · exact ⟨by omega, by omega, by omega⟩
  obtain ⟨hs2, hs3, hs4⟩ := hs2
  have hmb2 : a < mid ∧ mid < b ∧ nn ≤ 4194304 := by omega
  obtain ⟨hm1, hm2, hm3⟩ := hmb2
  have hn1 : p + 1 = nn := by omega
  have HMID := Lib.hid hmid
  have HNN := Lib.hid hnn
  have HS0 := Lib.hid hs0
  have HR0 := Lib.hid hr0
  have HP1 := Lib.hid hn1
  have HEM := Lib.hid EM
  have HEN := Lib.hid EN
  have HEP := Lib.hid EP
  clear hmid hnn hp hs0 hr0 EM EN EP hn1
  go_enter Try.func82, Try.ntmps82
  go_upto_region 25 with fail
  clear t0 t9
  (try simp only [HEM.out])
  go_upto_if 140 with fail
  (try simp only [HEN.out])
  go_cut [20, 21] from 138 to 146 (fun s20 s21 wx => s20 = .int .i64 (s0 : Nat) ∧ s21 = .int .i64 (r0 : Nat) ∧ Hid (w = wx))
  case first =>
    by_cases q : mid < m
    · have t1 : decide ((mid : Int) < (m : Int)) = true := by simp; omega
      have e1 : s0 = nn - b := by rw [← HS0.out, if_pos q]
      have e2 : r0 = mid := by rw [← HR0.out, if_pos q]
      have e3 := HNN.out
      have e4 := HMID.out
      go_wp2_with fail
      go_meet
      case rel => exact ⟨congrArg (Value.int .i64) (by omega), congrArg (Value.int .i64) (by omega), rfl⟩
    · have t1 : decide ((mid : Int) < (m : Int)) = false := by simp; omega
      have e1 : s0 = a := by rw [← HS0.out, if_neg q]
      have e2 : r0 = m := by rw [← HR0.out, if_neg q]
      go_wp2_with fail
      go_meet
      case rel => exact ⟨congrArg (Value.int .i64) (by omega), congrArg (Value.int .i64) (by omega), rfl⟩
  case rest =>
    obtain ⟨rfl, rfl, hwx⟩ := hcut
    obtain rfl := hwx.out
    go_upto_region 33 with fail
    (try simp only [HEP.out])
    go_loopw [20, 21, 23] (fun s20 s21 _ wr => ∃ s r : Nat, s20 = .int .i64 s ∧ s21 = .int .i64 r ∧ Hid (CutI (leC lt) f0 nn s0 r0 s r) ∧ Hid (HdC wr g n f0) ∧ Hid (Tch (fun k => k = g) w wr)) (fun s20 s21 _ _ => (intOf s21).toNat - (intOf s20).toNat)
    case atStart => exact ⟨s0, r0, rfl, rfl, CutI.start _ hs1, HH, Tch.refl _ _⟩
    case round =>
      obtain ⟨s, r, rfl, rfl, HCI, HS, HT⟩ := hrel
      have q1 := HCI.out.b1
      have q2 := HCI.out.b2
      have q3 := HCI.out.b3
      by_cases hlt : s < r
      · go_upto_region 35 with fail
        obtain ⟨h, hh⟩ : ∃ h, (s + r) / 2 = h := ⟨_, rfl⟩
        have EH : ((s : Int) + (r : Int)) / 2 = ((h : Nat) : Int) := by omega
        (try simp only [EH])
        have hih : s ≤ h := by omega
        have hhj : h < r := by omega
        have hpn := HP1.out
        obtain ⟨pc, hpc⟩ : ∃ pc, p - h = pc := ⟨_, rfl⟩
        have hnm := HNN.out
        have HHN : Hid (h < n) := by show _ < _; omega
        have HPN : Hid (pc < n) := by show _ < _; omega
        have EPC := Lib.hid (show IntKind.i64.wrap (((p : Nat) : Int) - ((h : Nat) : Int)) = ((pc : Nat) : Int) from wi_nat (by omega) (by omega))
        have epc : nn - 1 - h = pc := by omega
        have hhn : h < nn := by omega
        clear EH hh
        cases hl : lt (f0 pc) (f0 h) with
        | true =>
          have LT := Lib.hid hl
          have HSE2 : Hid (CutI (leC lt) f0 nn s0 r0 s h) := HCI.out.down hih hhj (by rw [epc]; exact HC.out.asy _ _ hl)
          clear hl hpc epc hhn hpn hnm
          refine wp_region_held_drew (S := fun w' => Below wr.heap.size wr w') (by kernel_rfl) (below_drewN (Below.refl _ _) 1) (fun hH => ?_)
          refine wpAnyH_take (i := 0) (v := .func (.func 63) #[] #[]) rfl (by kernel_rfl) (by kernel_rfl) (by kernel_rfl) (fun _ _ _ h => h) (.inl ⟨by rfl, fun _ _ => by kernel_rfl⟩) hH ?_
          (try simp only [List.getElem_toArray, List.getElem_cons_zero, Act.put, List.setIfInBounds_toArray, List.set_cons_zero, List.set_cons_succ])
          refine wpAnyH_take (i := 1) (v := .slice (some ⟨g, 0, none⟩) n n) rfl (by kernel_rfl) (by kernel_rfl) (by kernel_rfl) (fun _ _ _ h => h) (.inl ⟨by rfl, fun _ _ => by kernel_rfl⟩) hH ?_
          (try simp only [List.getElem_toArray, List.getElem_cons_zero, List.getElem_cons_succ, Act.put, List.setIfInBounds_toArray, List.set_cons_zero, List.set_cons_succ])
          refine wpAnyH_take (i := 2) (v := .int .i64 ((p : Nat) : Int)) rfl (by kernel_rfl) (by kernel_rfl) (by kernel_rfl) (fun _ _ _ h => h) (.inl ⟨by rfl, fun _ _ => by kernel_rfl⟩) hH ?_
          (try simp only [List.getElem_toArray, List.getElem_cons_zero, List.getElem_cons_succ, Act.put, List.setIfInBounds_toArray, List.set_cons_zero, List.set_cons_succ])
          refine wpAnyH_take (i := 3) (v := .int .i64 ((h : Nat) : Int)) rfl (by kernel_rfl) (by kernel_rfl) (by kernel_rfl) (fun _ _ _ h => h) (.inl ⟨by rfl, fun _ _ => by kernel_rfl⟩) hH ?_
          (try simp only [List.getElem_toArray, List.getElem_cons_zero, List.getElem_cons_succ, Act.put, List.setIfInBounds_toArray, List.set_cons_zero, List.set_cons_succ])
          refine wpAnyH_take (i := 4) (v := .int .i64 ((pc : Nat) : Int)) rfl (by kernel_rfl) (by kernel_rfl) (by kernel_rfl) (fun _ _ _ h => h) (yieldsIf_subS EPC.out (by rfl) _ _ rfl rfl rfl) hH ?_
          (try simp only [List.getElem_toArray, List.getElem_cons_zero, List.getElem_cons_succ, Act.put, List.setIfInBounds_toArray, List.set_cons_zero, List.set_cons_succ])
          refine wpAnyH_take (i := 5) (v := .pointer (some ⟨g, 0 + pc * 4, none⟩)) rfl (by kernel_rfl) (by kernel_rfl) (by kernel_rfl) (fun _ _ _ h => h) (yieldsIf_indexC (k := pc) Try.underlying71 szCd (by rfl) _ _ rfl rfl rfl HPN.out) hH ?_
          (try simp only [List.getElem_toArray, List.getElem_cons_zero, List.getElem_cons_succ, Act.put, List.setIfInBounds_toArray, List.set_cons_zero, List.set_cons_succ])
          refine wpAnyH_take (i := 6) (v := (f0 pc).v) rfl (by kernel_rfl) (by kernel_rfl) (by kernel_rfl) (fun _ _ _ h => h) (yieldsIf_loadP (by rfl) _ rfl rfl (fun _ s => (HS.out.bel s).load HPN.out)) hH ?_
          (try simp only [List.getElem_toArray, List.getElem_cons_zero, List.getElem_cons_succ, Act.put, List.setIfInBounds_toArray, List.set_cons_zero, List.set_cons_succ])
          refine wpAnyH_take (i := 7) (v := .slice (some ⟨g, 0, none⟩) n n) rfl (by kernel_rfl) (by kernel_rfl) (by kernel_rfl) (fun _ _ _ h => h) (.inl ⟨by rfl, fun _ _ => by kernel_rfl⟩) hH ?_
          (try simp only [List.getElem_toArray, List.getElem_cons_zero, List.getElem_cons_succ, Act.put, List.setIfInBounds_toArray, List.set_cons_zero, List.set_cons_succ])
          refine wpAnyH_take (i := 8) (v := .int .i64 ((h : Nat) : Int)) rfl (by kernel_rfl) (by kernel_rfl) (by kernel_rfl) (fun _ _ _ h => h) (.inl ⟨by rfl, fun _ _ => by kernel_rfl⟩) hH ?_
          (try simp only [List.getElem_toArray, List.getElem_cons_zero, List.getElem_cons_succ, Act.put, List.setIfInBounds_toArray, List.set_cons_zero, List.set_cons_succ])
          refine wpAnyH_take (i := 9) (v := .pointer (some ⟨g, 0 + h * 4, none⟩)) rfl (by kernel_rfl) (by kernel_rfl) (by kernel_rfl) (fun _ _ _ h => h) (yieldsIf_indexC (k := h) Try.underlying71 szCd (by rfl) _ _ rfl rfl rfl HHN.out) hH ?_
          (try simp only [List.getElem_toArray, List.getElem_cons_zero, List.getElem_cons_succ, Act.put, List.setIfInBounds_toArray, List.set_cons_zero, List.set_cons_succ])
          refine wpAnyH_take (i := 10) (v := (f0 h).v) rfl (by kernel_rfl) (by kernel_rfl) (by kernel_rfl) (fun _ _ _ h => h) (yieldsIf_loadP (by rfl) _ rfl rfl (fun _ s => (HS.out.bel s).load HHN.out)) hH ?_
          (try simp only [List.getElem_toArray, List.getElem_cons_zero, List.getElem_cons_succ, Act.put, List.setIfInBounds_toArray, List.set_cons_zero, List.set_cons_succ])
          refine wpAnyH_call 11 63 #[(f0 pc).v, (f0 h).v] _ (by kernel_rfl) (by rfl) (by kernel_rfl) (by kernel_rfl) (HC.out.cmp _ _ _) ?_
          rintro e Z1 ⟨r9, rfl, hr, hb1⟩
          have h1 : Below wr.heap.size wr Z1 := hH.trans (hb1.mono hH.size)
          rw [LT.out] at hr
          refine ⟨_, rfl, h1, ?_⟩
          (try simp only [List.getElem_toArray, List.getElem_cons_zero, List.getElem_cons_succ, Act.put, List.setIfInBounds_toArray, List.set_cons_zero, List.set_cons_succ])
          refine wpAnyH_take (i := 12) (v := .bool true) rfl (by kernel_rfl) (by kernel_rfl) (by kernel_rfl) (fun _ _ _ h => h) (yieldsIf_lssS hr (by rfl) _ _ rfl rfl rfl) h1 ?_
          (try simp only [List.getElem_toArray, List.getElem_cons_zero, List.getElem_cons_succ, Act.put, List.setIfInBounds_toArray, List.set_cons_zero, List.set_cons_succ])
          refine wpAnyH_take (i := 13) (v := .bool false) rfl (by kernel_rfl) (by kernel_rfl) (by kernel_rfl) (fun _ _ _ h => h) (.inl ⟨by rfl, fun _ _ => by kernel_rfl⟩) h1 ?_
          (try simp only [List.getElem_toArray, List.getElem_cons_zero, List.getElem_cons_succ, Act.put, List.setIfInBounds_toArray, List.set_cons_zero, List.set_cons_succ])
          refine wpAnyH_done (by kernel_rfl) ?_ _
          have H1 := Lib.hid h1
          clear hH h1 hb1 hr
          go_wp2_with fail
          go_roundw
          case rel => exact ⟨s, h, rfl, rfl, HSE2, Lib.hid (HS.out.bel H1.out), Lib.hid (HT.out.trans (Tch.of_below H1.out) (fun _ q => .inl q))⟩
          case measure => simp [intOf]; omega
        | false =>
          have LT := Lib.hid hl
          have HSE2 : Hid (CutI (leC lt) f0 nn s0 r0 (h + 1) r) := HCI.out.up hih hhj hhn (by rw [epc]; exact hl)
          clear hl hpc epc hhn hpn hnm
          refine wp_region_held_drew (S := fun w' => Below wr.heap.size wr w') (by kernel_rfl) (below_drewN (Below.refl _ _) 1) (fun hH => ?_)
          refine wpAnyH_take (i := 0) (v := .func (.func 63) #[] #[]) rfl (by kernel_rfl) (by kernel_rfl) (by kernel_rfl) (fun _ _ _ h => h) (.inl ⟨by rfl, fun _ _ => by kernel_rfl⟩) hH ?_
          (try simp only [List.getElem_toArray, List.getElem_cons_zero, Act.put, List.setIfInBounds_toArray, List.set_cons_zero, List.set_cons_succ])
          refine wpAnyH_take (i := 1) (v := .slice (some ⟨g, 0, none⟩) n n) rfl (by kernel_rfl) (by kernel_rfl) (by kernel_rfl) (fun _ _ _ h => h) (.inl ⟨by rfl, fun _ _ => by kernel_rfl⟩) hH ?_
          (try simp only [List.getElem_toArray, List.getElem_cons_zero, List.getElem_cons_succ, Act.put, List.setIfInBounds_toArray, List.set_cons_zero, List.set_cons_succ])
          refine wpAnyH_take (i := 2) (v := .int .i64 ((p : Nat) : Int)) rfl (by kernel_rfl) (by kernel_rfl) (by kernel_rfl) (fun _ _ _ h => h) (.inl ⟨by rfl, fun _ _ => by kernel_rfl⟩) hH ?_
          (try simp only [List.getElem_toArray, List.getElem_cons_zero, List.getElem_cons_succ, Act.put, List.setIfInBounds_toArray, List.set_cons_zero, List.set_cons_succ])
          refine wpAnyH_take (i := 3) (v := .int .i64 ((h : Nat) : Int)) rfl (by kernel_rfl) (by kernel_rfl) (by kernel_rfl) (fun _ _ _ h => h) (.inl ⟨by rfl, fun _ _ => by kernel_rfl⟩) hH ?_
          (try simp only [List.getElem_toArray, List.getElem_cons_zero, List.getElem_cons_succ, Act.put, List.setIfInBounds_toArray, List.set_cons_zero, List.set_cons_succ])
          refine wpAnyH_take (i := 4) (v := .int .i64 ((pc : Nat) : Int)) rfl (by kernel_rfl) (by kernel_rfl) (by kernel_rfl) (fun _ _ _ h => h) (yieldsIf_subS EPC.out (by rfl) _ _ rfl rfl rfl) hH ?_
          (try simp only [List.getElem_toArray, List.getElem_cons_zero, List.getElem_cons_succ, Act.put, List.setIfInBounds_toArray, List.set_cons_zero, List.set_cons_succ])
          refine wpAnyH_take (i := 5) (v := .pointer (some ⟨g, 0 + pc * 4, none⟩)) rfl (by kernel_rfl) (by kernel_rfl) (by kernel_rfl) (fun _ _ _ h => h) (yieldsIf_indexC (k := pc) Try.underlying71 szCd (by rfl) _ _ rfl rfl rfl HPN.out) hH ?_
          (try simp only [List.getElem_toArray, List.getElem_cons_zero, List.getElem_cons_succ, Act.put, List.setIfInBounds_toArray, List.set_cons_zero, List.set_cons_succ])
          refine wpAnyH_take (i := 6) (v := (f0 pc).v) rfl (by kernel_rfl) (by kernel_rfl) (by kernel_rfl) (fun _ _ _ h => h) (yieldsIf_loadP (by rfl) _ rfl rfl (fun _ s => (HS.out.bel s).load HPN.out)) hH ?_
          (try simp only [List.getElem_toArray, List.getElem_cons_zero, List.getElem_cons_succ, Act.put, List.setIfInBounds_toArray, List.set_cons_zero, List.set_cons_succ])
          refine wpAnyH_take (i := 7) (v := .slice (some ⟨g, 0, none⟩) n n) rfl (by kernel_rfl) (by kernel_rfl) (by kernel_rfl) (fun _ _ _ h => h) (.inl ⟨by rfl, fun _ _ => by kernel_rfl⟩) hH ?_
          (try simp only [List.getElem_toArray, List.getElem_cons_zero, List.getElem_cons_succ, Act.put, List.setIfInBounds_toArray, List.set_cons_zero, List.set_cons_succ])
          refine wpAnyH_take (i := 8) (v := .int .i64 ((h : Nat) : Int)) rfl (by kernel_rfl) (by kernel_rfl) (by kernel_rfl) (fun _ _ _ h => h) (.inl ⟨by rfl, fun _ _ => by kernel_rfl⟩) hH ?_
          (try simp only [List.getElem_toArray, List.getElem_cons_zero, List.getElem_cons_succ, Act.put, List.setIfInBounds_toArray, List.set_cons_zero, List.set_cons_succ])
          refine wpAnyH_take (i := 9) (v := .pointer (some ⟨g, 0 + h * 4, none⟩)) rfl (by kernel_rfl) (by kernel_rfl) (by kernel_rfl) (fun _ _ _ h => h) (yieldsIf_indexC (k := h) Try.underlying71 szCd (by rfl) _ _ rfl rfl rfl HHN.out) hH ?_
          (try simp only [List.getElem_toArray, List.getElem_cons_zero, List.getElem_cons_succ, Act.put, List.setIfInBounds_toArray, List.set_cons_zero, List.set_cons_succ])
          refine wpAnyH_take (i := 10) (v := (f0 h).v) rfl (by kernel_rfl) (by kernel_rfl) (by kernel_rfl) (fun _ _ _ h => h) (yieldsIf_loadP (by rfl) _ rfl rfl (fun _ s => (HS.out.bel s).load HHN.out)) hH ?_
          (try simp only [List.getElem_toArray, List.getElem_cons_zero, List.getElem_cons_succ, Act.put, List.setIfInBounds_toArray, List.set_cons_zero, List.set_cons_succ])
          refine wpAnyH_call 11 63 #[(f0 pc).v, (f0 h).v] _ (by kernel_rfl) (by rfl) (by kernel_rfl) (by kernel_rfl) (HC.out.cmp _ _ _) ?_
          rintro e Z1 ⟨r9, rfl, hr, hb1⟩
          have h1 : Below wr.heap.size wr Z1 := hH.trans (hb1.mono hH.size)
          rw [LT.out] at hr
          refine ⟨_, rfl, h1, ?_⟩
          (try simp only [List.getElem_toArray, List.getElem_cons_zero, List.getElem_cons_succ, Act.put, List.setIfInBounds_toArray, List.set_cons_zero, List.set_cons_succ])
          refine wpAnyH_take (i := 12) (v := .bool false) rfl (by kernel_rfl) (by kernel_rfl) (by kernel_rfl) (fun _ _ _ h => h) (yieldsIf_lssS hr (by rfl) _ _ rfl rfl rfl) h1 ?_
          (try simp only [List.getElem_toArray, List.getElem_cons_zero, List.getElem_cons_succ, Act.put, List.setIfInBounds_toArray, List.set_cons_zero, List.set_cons_succ])
          refine wpAnyH_take (i := 13) (v := .bool true) rfl (by kernel_rfl) (by kernel_rfl) (by kernel_rfl) (fun _ _ _ h => h) (.inl ⟨by rfl, fun _ _ => by kernel_rfl⟩) h1 ?_
          (try simp only [List.getElem_toArray, List.getElem_cons_zero, List.getElem_cons_succ, Act.put, List.setIfInBounds_toArray, List.set_cons_zero, List.set_cons_succ])
          refine wpAnyH_done (by kernel_rfl) ?_ _
          have H1 := Lib.hid h1
          clear hH h1 hb1 hr
          go_wp2_with fail
          go_roundw
          case rel => exact ⟨h + 1, r, by go_num, rfl, HSE2, Lib.hid (HS.out.bel H1.out), Lib.hid (HT.out.trans (Tch.of_below H1.out) (fun _ q => .inl q))⟩
          case measure => simp [intOf]; omega
      · obtain rfl : s = r := by omega
        obtain ⟨wo, rfl⟩ : ∃ wo : World, wo = wr := ⟨_, rfl⟩
        obtain ⟨x1, x2, x3, x4, x5, x6, y1, y2, y3, y4, y5⟩ := cut_law HC.out.tr' (by omega) (by omega) HMID.out.symm HNN.out.symm HO1.out HO2.out HS0.out.symm HR0.out.symm HCI.out
        obtain ⟨e, he⟩ : ∃ e, nn - s = e := ⟨_, rfl⟩
        have hsn : s ≤ nn := by have := HNN.out; omega
        have EE : ((nn : Nat) : Int) - ((s : Nat) : Int) = ((e : Nat) : Int) := by omega
        rw [he] at x4 x5 x6 y1 y2 y3 y4 y5
        obtain ⟨f1, hf1⟩ : ∃ f1, roF f0 s m e = f1 := ⟨_, rfl⟩
        have HR1 := Lib.hid hf1
        rw [hf1] at y1 y2 y3 y4 y5
        have Y1 := Lib.hid y1
        have Y2 := Lib.hid y2
        have Y3 := Lib.hid y3
        have Y4 := Lib.hid y4
        have Y5 := Lib.hid y5
        have HI1 : Hid (Into f0 f1 a b) := by show Into _ _ _ _; rw [← hf1]; exact (Into.ro x2 x4).wide x1 x5
        have HEE := Lib.hid EE
        clear y1 y2 y3 y4 y5 hf1 he EE hsn q1 q2 q3 hlt HCI
        go_upto_region 39 with fail
        (try simp only [HEE.out])
        obtain ⟨c1, hc1⟩ : ∃ c1, decide (s < m ∧ m < e) = c1 := ⟨_, rfl⟩
        have HC1 := Lib.hid hc1
        clear hc1
        go_cut [185] from 178 to 185 (fun s185 wx => s185 = .bool c1 ∧ Hid (wo = wx))
        case first =>
          by_cases z1 : s < m
          · have t1 : decide ((s : Int) < (m : Int)) = true := by simp; omega
            by_cases z2 : m < e
            · have t2 : decide ((m : Int) < (e : Int)) = true := by simp; omega
              have ec : c1 = true := by rw [← HC1.out]; simp [z1, z2]
              subst ec
              go_wp2_with fail
              go_meet
              case rel => exact ⟨rfl, rfl⟩
            · have t2 : decide ((m : Int) < (e : Int)) = false := by simp; omega
              have ec : c1 = false := by rw [← HC1.out]; simp [z2]
              subst ec
              go_wp2_with fail
              go_meet
              case rel => exact ⟨rfl, rfl⟩
          · have t1 : decide ((s : Int) < (m : Int)) = false := by simp; omega
            have ec : c1 = false := by rw [← HC1.out]; simp [z1]
            subst ec
            go_wp2_with fail
            go_meet
            case rel => exact ⟨rfl, rfl⟩
        case rest =>
        obtain ⟨rfl, hwx⟩ := hcut
        obtain rfl := hwx.out
        go_upto_if 185 with fail
        go_cut [] from 186 to 191 (fun wx => Hid (SyM g n a b f0 w wx f1))
        case first =>
          cases c1 with
          | true =>
            obtain ⟨z1, z2⟩ := of_decide_eq_true HC1.out
            have HRC := Lib.hid (HRO.out s m e wo HS.out z1 z2 (by omega))
            rw [HR1.out] at HRC
            go_wp2_with (go_at_call 84; (with_reducible refine HRC.out.mono ?_); rintro e9 w2 ⟨rfl, k1, k2, k3⟩; have HM2 : Hid (SyM g n a b f0 w w2 f1) := ⟨k1, HI1.out, k2, HT.out.trans k3 (fun _ q => .inl q)⟩; clear k1 k2 k3)
            go_meet
            case rel => exact HM2
          | false =>
            have z := of_decide_eq_false HC1.out
            have HM2 : Hid (SyM g n a b f0 w wo f1) := by
              have e1 : f1 = f0 := by
                rw [← HR1.out]
                by_cases z1 : s < m
                · obtain rfl : m = e := by omega
                  exact roF_nil2 f0 _ _
                · obtain rfl : s = m := by omega
                  exact roF_nil1 f0 _ _
              rw [e1]
              exact ⟨HS.out, Into.refl _ _ _, List.Perm.refl _, HT.out⟩
            go_wp2_with fail
            go_meet
            case rel => exact HM2
        case rest =>
          have HM1 := hcut
          obtain ⟨wo1, rfl⟩ : ∃ wo1 : World, wo1 = wc := ⟨_, rfl⟩
          clear HS HT HRO HR1
          go_upto_region 41 with fail
          obtain ⟨c2, hc2⟩ : ∃ c2, decide (a < s ∧ s < mid) = c2 := ⟨_, rfl⟩
          have HC2 := Lib.hid hc2
          clear hc2
          go_cut [199] from 192 to 199 (fun s199 wx => s199 = .bool c2 ∧ Hid (wo1 = wx))
          case first =>
            by_cases z1 : a < s
            · have t1 : decide ((a : Int) < (s : Int)) = true := by simp; omega
              by_cases z2 : s < mid
              · have t2 : decide ((s : Int) < (mid : Int)) = true := by simp; omega
                have ec : c2 = true := by rw [← HC2.out]; simp [z1, z2]
                subst ec
                go_wp2_with fail
                go_meet
                case rel => exact ⟨rfl, rfl⟩
              · have t2 : decide ((s : Int) < (mid : Int)) = false := by simp; omega
                have ec : c2 = false := by rw [← HC2.out]; simp [z2]
                subst ec
                go_wp2_with fail
                go_meet
                case rel => exact ⟨rfl, rfl⟩
            · have t1 : decide ((a : Int) < (s : Int)) = false := by simp; omega
              have ec : c2 = false := by rw [← HC2.out]; simp [z1]
              subst ec
              go_wp2_with fail
              go_meet
              case rel => exact ⟨rfl, rfl⟩
          case rest =>
          obtain ⟨rfl, hwx⟩ := hcut
          obtain rfl := hwx.out
          go_upto_if 199 with fail
          go_cut [] from 200 to 205 (fun wx => ∃ f2, Hid (SyM g n a b f0 w wx f2) ∧ Hid (Into f1 f2 a mid) ∧ Hid (Srt (leC lt) f2 a mid))
          case first =>
            cases c2 with
            | true =>
              obtain ⟨z1, z2⟩ := of_decide_eq_true HC2.out
              have HRC := Lib.hid (fun W (hm : SyM g n a b f0 w W f1) => HIH.out a s mid f1 W (by omega) hm.1 z1 z2 (by omega) Y1.out Y2.out)
              go_wp2_with (go_at_call 82; (with_reducible refine (HRC.out _ HM1.out).mono ?_); rintro e9 w2 ⟨rfl, f2, k1, k2, k3, k4, k5⟩; have HM2 : Hid (SyM g n a b f0 w w2 f2) := ⟨k1, HM1.out.2.1.trans (k2.wide (Nat.le_refl _) (by omega)), k3.trans HM1.out.2.2.1, HM1.out.2.2.2.trans k5 (fun _ q => .inl q)⟩; have HK2 := Lib.hid k2; have HK4 := Lib.hid k4; clear k1 k2 k3 k4 k5)
              go_meet
              case rel => exact ⟨f2, HM2, HK2, HK4⟩
            | false =>
              have z := of_decide_eq_false HC2.out
              have HK4 : Hid (Srt (leC lt) f1 a mid) := by
                by_cases z1 : a < s
                · obtain rfl : s = mid := by omega
                  exact Y1.out
                · obtain rfl : a = s := by omega
                  exact Y2.out
              go_wp2_with fail
              go_meet
              case rel => exact ⟨f1, HM1, Into.refl _ _ _, HK4⟩
          case rest =>
            obtain ⟨f2, HM2, HK2, HK4⟩ := hcut
            have HS3 : Hid (Srt (leC lt) f2 mid e) := Y3.out.keep fun z p q => HK2.out.2 z (by omega)
            have HS4 : Hid (Srt (leC lt) f2 e b) := Y4.out.keep fun z p q => HK2.out.2 z (by omega)
            clear Y1 Y2 Y3 Y4 HM1
            by_cases z : mid < e ∧ e < b
            · obtain ⟨z1, z2⟩ := z
              have t1 : decide ((mid : Int) < (e : Int)) = true := by simp; omega
              have t2 : decide ((e : Int) < (b : Int)) = true := by simp; omega
              have HRC := Lib.hid (fun W (hm : SyM g n a b f0 w W f2) => HIH.out mid e b f2 W (by omega) hm.1 z1 z2 hbn HS3.out HS4.out)
              go_wp2_with (go_at_call 82; (with_reducible refine (HRC.out _ HM2.out).mono ?_); rintro e9 w2 ⟨rfl, f3, k1, k2, k3, k4, k5⟩; have HF : Hid (SyR lt g n a b f0 w (.returned (.tuple #[])) w2) := SyR.mk' k1 (HM2.out.2.1.trans (k2.wide (by omega) (Nat.le_refl _))) (k3.trans HM2.out.2.2.1) (fin_law Y5.out HK2.out k2 HK4.out k4) (HM2.out.2.2.2.trans k5 (fun _ q => .inl q)); clear k1 k2 k3 k4 k5)
              go_end0
              exact HF.out
            · have HK5 : Hid (Srt (leC lt) f2 mid b) := by
                by_cases z1 : mid < e
                · obtain rfl : e = b := by omega
                  exact HS3.out
                · obtain rfl : mid = e := by omega
                  exact HS4.out
              have HFF := Lib.hid (fun W (hm : SyM g n a b f0 w W f2) => SyR.mk' (lt := lt) hm.1 hm.2.1 hm.2.2.1 (fin_law Y5.out HK2.out (Into.refl f2 mid b) HK4.out HK5.out) hm.2.2.2)
              by_cases z1 : mid < e
              · have t1 : decide ((mid : Int) < (e : Int)) = true := by simp; omega
                have t2 : decide ((e : Int) < (b : Int)) = false := by simp; omega
                go_wp2_with fail
                go_end0
                exact HFF.out _ HM2.out
              · have t1 : decide ((mid : Int) < (e : Int)) = false := by simp; omega
                go_wp2_with fail
                go_end0
                exact HFF.out _ HM2.out
end Go.Proofs.Ytpcbfoddlpgdjaa
