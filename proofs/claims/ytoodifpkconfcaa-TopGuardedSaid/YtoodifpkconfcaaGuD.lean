/- TopGuarded: law and walk. -/
import Derived.Test.YtoodifpkconfcaaGuC
namespace Go.Proofs.Ytoodifpkconfcaa
open Go.RowKit
set_option maxRecDepth 100000 in
set_option maxHeartbeats 8000000 in
theorem guarded_walk (A : Option Addr) (n c : Nat) (dl : List Int) (w : World) (hd : Rd2 w w.heap.size A n dl) :
    Calls Try.prog 5 #[.slice A n c] w (fun e w' => e = .returned (.bool true) ∧ Below w.heap.size w w') := by
  have HB := Lib.hid (begins10 w)
  by_cases h60 : n ≤ 60
  · have t1 : decide ((n : Int) > 60) = false := decide_eq_false (by omega)
    have t2 : decide (60 < n) = false := decide_eq_false (by omega)
    have HD := Lib.hid hd
    have H60 := Lib.hid h60
    have n60 : (n : Int) < 61 := by omega
    clear hd h60
    go_enter Try.func5, Try.ntmps5
    go_upto_region 5 with (go_at_call 16; (refine HB.out.mono ?_); rintro e w1 ⟨rfl, hb1⟩; have HB1 := Lib.hid hb1; clear hb1)
    have HNT := Lib.hid (lk_newF w1)
    clear HB
    go_upto_region 9 with (first
      | (go_at_call 17; (with_reducible refine HNT.out.mono ?_); rintro e w2 ⟨⟨t, hb, wb, rfl, hL, hl⟩, hb2⟩; have HL := Lib.hid hL; have HLL := Lib.hid hl; have HB2 := Lib.hid hb2; have HNX := Lib.hid (rc_new w2); clear hL hl hb2)
      | (go_at_call 7; (with_reducible refine HNX.out.mono ?_); rintro e w3 ⟨xb, xs, xd, rfl, hS, hb3, hx1, hx2, hx3⟩; have HS := Lib.hid (gu_start (w0 := w) HL.out (by have := HLL.out; have := HB1.out.size; omega) (HB1.out.trans (HB2.out.mono HB1.out.size)) hS hb3 ⟨hx1, hx2, hx3⟩); clear hS hb3 hx1 hx2 hx3))
    clear HL HLL HB1 HB2 HNT HNX
    go_loopw [5, 6, 22] (fun _ _ s22 W => ∃ (i N M : Nat), i ≤ n ∧ s22 = .int .i64 i ∧ Hid (N ≤ 4 * i ∧ M ≤ 3 * i) ∧ Hid (GuS w W none t hb wb xb xs xd N M (fun _ => none) (fun _ => none) (GuI i))) (fun _ _ s22 _ => n - (RowKit.intOf s22).toNat)
    case atStart => exact ⟨0, 0, 0, Nat.zero_le _, rfl, Lib.hid ⟨Nat.le_refl _, Nat.le_refl _⟩, HS⟩
    case round =>
      clear HS
      obtain ⟨i, N, M, hi, rfl, HNM, HS⟩ := hrel
      by_cases hlt : i < n
      · have HLT := Lib.hid hlt
        have i60 : (i : Int) < 60 := by omega
        have HI60 : Hid (i ≤ 60) := by show i ≤ 60; omega
        obtain ⟨b, o, rfl, hbl, hc1, hc2⟩ := HD.out.at_ hlt
        obtain ⟨kd, hkd⟩ : ∃ y, ig dl (i * 2) = y := ⟨_, rfl⟩
        obtain ⟨nn, hnn⟩ : ∃ z, ig dl (i * 2 + 1) = z := ⟨_, rfl⟩
        rw [hkd] at hc1
        rw [hnn] at hc2
        have hd1 := (HS.out.b.cell (p := ⟨b, o + i * 2, none⟩) hbl).trans hc1
        have hd2 := (HS.out.b.cell (p := ⟨b, o + i * 2 + 1, none⟩) hbl).trans hc2
        have t3 : decide (i < n) = true := decide_eq_true hlt
        have HS1 := Lib.hid (HS.out.open_ kd nn)
        clear hkd hnn hc1 hc2 hbl hlt HS
        go_upto_region 11 with fail
        obtain ⟨W1, hW1⟩ : ∃ x, wr.alloc (.cells #[.int .i64 kd, .int .i64 nn] 39) = x := ⟨_, rfl⟩
        obtain ⟨q, hq⟩ : ∃ x, wr.heap.size = x := ⟨_, rfl⟩
        rw [hW1, hq] at HS1 ⊢
        clear hW1 hq hd1 hd2 HD
        obtain ⟨c0, c1⟩ := HS1.out.cell
        by_cases hv : 0 ≤ kd ∧ kd ≤ 63 ∧ 0 ≤ nn ∧ nn ≤ 4096
        · obtain ⟨u, rfl⟩ : ∃ u : Nat, kd = (u : Int) := ⟨kd.toNat, by omega⟩
          have HU : Hid (u < 64) := by show u < 64; omega
          have HU5 : Hid (u < 65) := by show u < 65; omega
          have HP : Hid (0 ≤ nn ∧ nn ≤ 4096) := ⟨by omega, by omega⟩
          have v2 : decide ((u : Int) > 63) = false := decide_eq_false (by omega)
          have v2' : decide (63 < u) = false := decide_eq_false (by omega)
          have v3 : decide (nn < 0) = false := decide_eq_false (by omega)
          have v4 : decide (nn > 4096) = false := decide_eq_false (by omega)
          have HT1 := Lib.hid (gu_take1 HS1.out HU.out HP.out (by have := HNM.out.2; have := HI60.out; omega))
          clear hv
          go_upto_region 14 with (first
            | (go_at_call 18; (with_reducible refine HT1.out.mono ?_); rintro e W2 ⟨rfl, hs⟩; obtain ⟨c2, c3⟩ := hs.cell; have HT2 := Lib.hid (gu_take2 hs HU.out HP.out (by have := HNM.out.2; have := HI60.out; omega)); clear hs)
            | (go_at_call 18; (with_reducible refine HT2.out.mono ?_); rintro e W3 ⟨rfl, hs⟩; obtain ⟨c4, c5⟩ := hs.cell; have HLD := Lib.hid (gu_load hs HU5.out HP.out); clear hs))
          clear HT1 HT2 HS1 c0 c1 c2 c3
          go_upto_region 15 with (go_at_call 10; (with_reducible refine HLD.out.mono ?_); rintro e W4 ⟨rfl, hs⟩; have HS4 := Lib.hid hs; clear hs)
          clear HLD c4 c5
          obtain ⟨c0, c1⟩ := HS4.out.cell
          have hN : N ≤ 240 := by have := HNM.out.1; have := HI60.out; omega
          have HN := Lib.hid hN
          have hr : i % 3 = 0 ∨ i % 3 = 1 ∨ i % 3 = 2 := by omega
          clear hN
          rcases hr with hr | hr | hr
          case' inl =>
            have e3 : (i : Int) % 3 = 0 := by omega
            have e4 : (i : Int).tmod 3 = 0 := by rw [Int.tmod_eq_emod_of_nonneg (by omega)]; exact e3
            have HW := Lib.hid (gu_write HS4.out HU5.out HP.out (by have := HN.out; omega))
            clear hr
            go_upto_region 17 with (go_at_call 14; (with_reducible refine HW.out.mono ?_); rintro e W5 ⟨rfl, hs⟩; have HS5 := Lib.hid hs; clear hs)
            obtain ⟨N2, hN2⟩ : ∃ q, q = N + 1 := ⟨_, rfl⟩
          case' inr.inl =>
            have e3 : (i : Int) % 3 = 1 := by omega
            have e4 : (i : Int).tmod 3 = 1 := by rw [Int.tmod_eq_emod_of_nonneg (by omega)]; exact e3
            have HRD := Lib.hid (gu_read HS4.out HU5.out HP.out HI60.out (by have := HN.out; omega))
            clear hr
            go_upto_region 17 with (first
              | (go_at_call 13; (with_reducible refine HRD.out.mono ?_); rintro e W45 ⟨rfl, hs⟩; obtain ⟨c2, c3⟩ := hs.cell; have HW := Lib.hid (gu_write hs HU5.out HP.out (by have := HN.out; omega)); clear hs)
              | (go_at_call 14; (with_reducible refine HW.out.mono ?_); rintro e W5 ⟨rfl, hs⟩; have HS5 := Lib.hid hs; clear hs))
            obtain ⟨N2, hN2⟩ : ∃ q, q = N + 2 + 1 := ⟨_, rfl⟩
          case' inr.inr =>
            have e3 : (i : Int) % 3 = 2 := by omega
            have e4 : (i : Int).tmod 3 = 2 := by rw [Int.tmod_eq_emod_of_nonneg (by omega)]; exact e3
            have HRD := Lib.hid (gu_read HS4.out HU5.out HP.out HI60.out (by have := HN.out; omega))
            clear hr
            go_upto_region 17 with (go_at_call 13; (with_reducible refine HRD.out.mono ?_); rintro e W5 ⟨rfl, hs⟩; have HS5 := Lib.hid hs; clear hs)
            obtain ⟨N2, hN2⟩ : ∃ q, q = N + 2 := ⟨_, rfl⟩
          all_goals
            rw [← hN2] at HS5
            have HN2 : Hid (N2 ≤ N + 3) := by show N2 ≤ N + 3; omega
            obtain ⟨d0, d1⟩ := HS5.out.cell
            have HST := Lib.hid (gu_store HS5.out HU5.out HP.out HI60.out (by have := HN.out; have := HN2.out; omega))
            clear hN2 HS4 e3 e4
            go_upto_region 18 with (go_at_call 8; (with_reducible refine HST.out.mono ?_); rintro e W6 ⟨rfl, hs⟩; obtain ⟨d2, d3⟩ := hs.cell; have HG1 := Lib.hid (gu_give1 hs HU.out HP.out); clear hs)
            clear HST HS5 d0 d1
            go_wp2_with (first
              | (go_at_call 19; (with_reducible refine HG1.out.mono ?_); rintro e W7 ⟨rfl, hs⟩; obtain ⟨d4, d5⟩ := hs.cell; have HT3 := Lib.hid (gu_take3 hs HP.out (by have := HNM.out.2; have := HI60.out; omega)); clear hs)
              | (go_at_call 18; (with_reducible refine HT3.out.mono ?_); rintro e W8 ⟨rfl, hs⟩; obtain ⟨d6, d7⟩ := hs.cell; have HG2 := Lib.hid (gu_give2 hs HP.out); clear hs)
              | (go_at_call 19; (with_reducible refine HG2.out.mono ?_); rintro e W9 ⟨rfl, hs⟩; have HS9 := Lib.hid hs.shut; clear hs))
            go_roundw
            case rel => exact ⟨i + 1, N2 + 1, M + 1 + 1 + 1, by have := HLT.out; omega, by go_num, Lib.hid ⟨by have := HNM.out.1; have := HN2.out; omega, by have := HNM.out.2; omega⟩, HS9⟩
            case measure => have := HLT.out; simp [RowKit.intOf]; omega
        · have HV := Lib.hid hv
          have HS2 := Lib.hid HS1.out.skip.shut
          clear HS1
          rcases (show kd < 0 ∨ (0 ≤ kd ∧ 63 < kd) ∨ (0 ≤ kd ∧ kd ≤ 63 ∧ nn < 0) ∨ (0 ≤ kd ∧ kd ≤ 63 ∧ 0 ≤ nn ∧ 4096 < nn) by omega) with h | h | h | h
          case' inl => have v1 : decide (kd < 0) = true := decide_eq_true h
          case' inr.inl =>
            have v1 : decide (kd < 0) = false := decide_eq_false (by omega)
            have v2 : decide (kd > 63) = true := decide_eq_true (by omega)
          case' inr.inr.inl =>
            have v1 : decide (kd < 0) = false := decide_eq_false (by omega)
            have v2 : decide (kd > 63) = false := decide_eq_false (by omega)
            have v3 : decide (nn < 0) = true := decide_eq_true (by omega)
          case' inr.inr.inr =>
            have v1 : decide (kd < 0) = false := decide_eq_false (by omega)
            have v2 : decide (kd > 63) = false := decide_eq_false (by omega)
            have v3 : decide (nn < 0) = false := decide_eq_false (by omega)
            have v4 : decide (nn > 4096) = true := decide_eq_true (by omega)
          all_goals
            clear hv h
            go_wp2_with fail
            go_roundw
            case rel => exact ⟨i + 1, N, M, by have := HLT.out; omega, by go_num, Lib.hid ⟨by have := HNM.out.1; omega, by have := HNM.out.2; omega⟩, HS2⟩
            case measure => have := HLT.out; simp [RowKit.intOf]; omega
      · obtain rfl : i = n := by omega
        have HCX : Hid (Calls Try.prog 15 #[.pointer (some ⟨xb, 0, none⟩)] wr (fun e w' => (∃ A c, e = .returned (.slice A 0 c)) ∧ Below wr.heap.size wr w')) := by
          obtain ⟨F, ck, fs, nt, sl, h1, h2, _⟩ := HS.out
          exact rc_clashes h2 (by omega)
        go_wp2_with (first
          | (go_at_call 15; (with_reducible refine HCX.out.mono ?_); rintro e W1 ⟨⟨A1, c1, rfl⟩, hb1⟩; have HS1 := Lib.hid (HS.out.below hb1); have HRG := Lib.hid (lk_ringF HS1.out.lk); clear hb1)
          | (go_at_call 20; (with_reducible refine HRG.out.mono ?_); rintro e W2 ⟨rfl, hb2⟩; have HB2 := Lib.hid (HS1.out.b.trans (hb2.mono HS1.out.b.size)); clear hb2))
        go_ret
        exact ⟨rfl, HB2.out⟩
  · have t1 : decide ((n : Int) > 60) = true := decide_eq_true (by omega)
    have t2 : decide (60 < n) = true := decide_eq_true (by omega)
    clear hd
    go_enter Try.func5, Try.ntmps5
    go_wp2_with (go_at_call 16; (refine HB.out.mono ?_); rintro e w1 ⟨rfl, hb1⟩; have HB1 := Lib.hid hb1; clear hb1)
    go_ret
    exact ⟨rfl, HB1.out⟩
end Go.Proofs.Ytoodifpkconfcaa
