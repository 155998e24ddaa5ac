/- TopKnown: law and walk. -/
import Derived.Test.YtoodifpkconfcaaKnA
namespace Go.Proofs.Ytoodifpkconfcaa
open Go.RowKit
/-- A clock above another one. -/
theorem cmpC_le {A B : List Int} (hA : A.length = 65) (hB : B.length = 65) (h : ∀ i, i < 65 → ig A i ≤ ig B i) : cmpC A B = 0 ∨ cmpC A B = -1 := by
  have hm : mxC A B = B := ext_getD (by rw [mxC_len hA hB, hB]) fun k hk => by
    have hk : k < 65 := by rw [← mxC_len hA hB]; exact hk
    rw [mxC_ig hA hB hk]
    have := h k hk
    omega
  unfold cmpC
  by_cases e : A = B
  · rw [if_pos e]; exact .inl rfl
  · rw [if_neg e, if_pos hm]; exact .inr rfl
theorem cmpC_lt {A B : List Int} (hA : A.length = 65) (hB : B.length = 65) (h : ∀ i, i < 65 → ig A i ≤ ig B i) (hne : A ≠ B) : cmpC A B = -1 := by
  have hm : mxC A B = B := ext_getD (by rw [mxC_len hA hB, hB]) fun k hk => by
    have hk : k < 65 := by rw [← mxC_len hA hB]; exact hk
    rw [mxC_ig hA hB hk]
    have := h k hk
    omega
  unfold cmpC
  rw [if_neg hne, if_pos hm]
theorem stepC_ig {c : List Int} (hc : c.length = 65) {u : Nat} (hu : u < 65) (i : Nat) : ig (stepC c u) i = if u = i then ig c u + 1 else ig c i := by
  unfold stepC
  rw [ig_set (by rw [hc]; exact hu)]
/-- A clock of small numbers. -/
def PosK (K : Int) (c : List Int) : Prop := c.length = 65 ∧ ∀ i, i < 65 → 0 ≤ ig c i ∧ ig c i ≤ K
theorem PosK.mono {K K' : Int} {c : List Int} (h : PosK K c) (hK : K ≤ K') : PosK K' c := ⟨h.1, fun i hi => by have := h.2 i hi; omega⟩
theorem PosK.step {K : Int} {c : List Int} (h : PosK K c) {u : Nat} (hu : u < 65) : PosK (K + 1) (stepC c u) := ⟨stepC_len h.1 u, fun i hi => by
  rw [stepC_ig h.1 hu]
  have h1 := h.2 i hi
  have h2 := h.2 u hu
  split <;> omega⟩
theorem PosK.mx {K : Int} {c d : List Int} (h : PosK K c) (h' : PosK K d) : PosK K (mxC c d) := ⟨mxC_len h.1 h'.1, fun i hi => by
  rw [mxC_ig h.1 h'.1 hi]
  have h1 := h.2 i hi
  have h2 := h'.2 i hi
  omega⟩
theorem PosK.set0 {K : Int} (hK : 0 ≤ K) {u : Nat} (hu : u < 65) {v : Int} (hv : 0 ≤ v ∧ v ≤ K) : PosK K (cl0.set u v) := ⟨by rw [List.length_set]; exact cl0_len, fun i hi => by
  rw [ig_set0 hu]
  split <;> omega⟩
theorem PosK.ofI_take {K : Int} {c : List Int} (h : PosK K c) {n : Nat} (hz : ∀ i, n ≤ i → i < 65 → ig c i = 0) : ofI (c.take n) = c := Go.Proofs.Ytoodifpkconfcaa.ofI_take h.1 (fun i hi => (h.2 i hi).1) hz
theorem Rd.tch {w w' : World} {g n : Nat} {xs : List Value} {S : Nat → Prop} (h : Rd w w.heap.size (some ⟨g, 0, none⟩) n xs) (hT : Tch S w w') (hg : ¬ S g) : Rd w' w'.heap.size (some ⟨g, 0, none⟩) n xs :=
  ⟨h.1, fun hn => by
    obtain ⟨b, o, e, hb, hc⟩ := h.2 hn
    injection e with e
    injection e with e1 e2
    subst e1; subst e2
    exact ⟨g, 0, rfl, Nat.lt_of_lt_of_le hb hT.size, fun j v hv => (hT.cell (p := ⟨g, 0 + j, none⟩) hb hg).trans (hc j v hv)⟩⟩
/-- The clocks behind j stores. -/
def ckK (u j : Nat) : Nat → List Int := upC (ckJ 65) u (cl0.set u ((j : Int) + 1))
theorem ckK_zero {u : Nat} (hu : u < 65) : ckK u 0 = ckJ 65 := by
  funext x
  unfold ckK upC
  split
  · rename_i h
    rw [h, ckJ_at hu]
    rfl
  · rfl
theorem ckK_at (u j : Nat) : ckK u j u = cl0.set u ((j : Int) + 1) := if_pos rfl
theorem ckK_step {u : Nat} (hu : u < 65) (j : Nat) : upC (ckK u j) u (stepC (ckK u j u) u) = ckK u (j + 1) := by
  have e : stepC (ckK u j u) u = cl0.set u (((j + 1 : Nat) : Int) + 1) := by
    rw [ckK_at]
    unfold stepC
    rw [ig_set0 hu, if_pos rfl, List.set_set]
    rw [show ((j + 1 : Nat) : Int) = (j : Int) + 1 by omega]
  funext x
  rw [e]
  unfold ckK upC
  split <;> rfl
set_option maxRecDepth 100000 in
set_option maxHeartbeats 8000000 in
theorem known_walk (a b p o n : Int) (hp : (Lit.int .i64 p).wf = true) (ho : (Lit.int .i64 o).wf = true) (hn : 0 ≤ n ∧ n ≤ 255) (w : World) :
    Calls Try.prog 3 #[.int .i64 a, .int .i64 b, .int .i64 p, .int .i64 o, .int .u8 n] w (fun e w' => e = .returned (.bool true) ∧ Below w.heap.size w w') := by
  have HB := Lib.hid (begins9_true w)
  by_cases ha : 0 ≤ a ∧ a ≤ 64
  · by_cases hb : 0 ≤ b ∧ b ≤ 64
    · obtain ⟨u, rfl⟩ : ∃ u : Nat, a = (u : Int) := ⟨a.toNat, by omega⟩
      obtain ⟨v, rfl⟩ : ∃ v : Nat, b = (v : Int) := ⟨b.toNat, by omega⟩
      obtain ⟨nn, rfl⟩ : ∃ nn : Nat, n = (nn : Int) := ⟨n.toNat, by omega⟩
      have hu : u < 65 := by omega
      have hv : v < 65 := by omega
      have t1 : decide ((u : Int) > 64) = false := decide_eq_false (by omega)
      have t2 : decide ((v : Int) > 64) = false := decide_eq_false (by omega)
      have t3 : decide (64 < u) = false := decide_eq_false (by omega)
      have t4 : decide (64 < v) = false := decide_eq_false (by omega)
      have HU := Lib.hid hu
      have HV := Lib.hid hv
      have HP := Lib.hid hp
      have HO := Lib.hid ho
      obtain ⟨q, hq⟩ : ∃ q : Nat, (nn : Int) % 9 = (q : Int) := ⟨nn % 9, by omega⟩
      have hq9 : q < 9 := by omega
      go_enter Try.func3, Try.ntmps3
      go_upto_region 5 with (go_at_call 6; (refine HB.out.mono ?_); rintro e w1 ⟨rfl, hb1⟩; have HB1 := Lib.hid hb1; clear hb1)
      have HN := Lib.hid (rc_new w1)
      go_upto_region 9 with (go_at_call 7; (with_reducible refine HN.out.mono ?_); rintro e w2 ⟨xb, sy, da, rfl, hS1, hb2, hx1, hx2, hx3⟩; have HS1 := Lib.hid hS1; have HB2 := Lib.hid hb2; have HX := Lib.hid (show w1.heap.size ≤ xb ∧ w1.heap.size ≤ sy ∧ w1.heap.size ≤ da from ⟨hx1, hx2, hx3⟩); clear hS1 hb2 hx1 hx2 hx3)
      obtain ⟨F, hFd⟩ : ∃ F : Nat → Prop, (fun x => x = xb ∨ x = sy ∨ x = da) = F := ⟨_, rfl⟩
      rw [hFd] at HS1
      have HFL : Hid (∀ x, F x → w.heap.size ≤ x) := fun x hx => by
        rw [← hFd] at hx
        have h1 := HX.out
        have h2 := HB1.out.size
        rcases hx with rfl | rfl | rfl <;> omega
      have HB02 := Lib.hid (HB1.out.trans (HB2.out.mono HB1.out.size))
      have HQ9 := Lib.hid hq9
      (try simp only [hq])
      have HQQ := Lib.hid hq
      clear hFd HX HN HB1 HB2 hu hv hp ho ha hb hq
      go_loopw [36] (fun s36 wr => ∃ (j : Nat) (fs : Int → Option (List Int)), j ≤ q ∧ s36 = .int .u8 (j : Int) ∧ Hid (RcS wr F xb sy da (ckK u j) fs (fun _ => none) (.slice none 0 0) 0 j) ∧ Hid (Below w.heap.size w wr)) (fun s36 _ => q - (RowKit.intOf s36).toNat)
      case atStart => exact ⟨0, fun _ => none, Nat.zero_le _, rfl, by rw [ckK_zero HU.out]; exact HS1, HB02⟩
      case round =>
        clear HS1 HB02
        obtain ⟨j, fs, hj, rfl, HS, HBW⟩ := hrel
        have hA : PosK 20 (ckK u j u) := by rw [ckK_at]; exact PosK.set0 (by decide) HU.out (by omega)
        by_cases hlt : j < q
        · have HLT := Lib.hid hlt
          have hst := rc_store HS.out u HU.out o HO.out (by omega) (by have := hA.2 u HU.out; omega)
          rw [ckK_step HU.out] at hst
          have HST := Lib.hid hst
          have j9 : j < 9 := by omega
          clear hst hA
          go_wp2_with (go_at_call 8; (with_reducible refine HST.out.mono ?_); rintro e w3 ⟨rfl, hS3, hT3⟩; have HS3 := Lib.hid hS3; have HBW3 := Lib.hid (HBW.out.trans (hT3.below HBW.out.size HFL.out)); clear hS3 hT3)
          go_roundw
          case rel => first | exact ⟨j + 1, _, by have := HLT.out; omega, by go_num, HS3, HBW3⟩ | ((repeat apply Exists.intro); refine ⟨?_, rfl⟩; exact ⟨j + 1, _, by have := HLT.out; omega, by go_num, HS3, HBW3⟩)
          case measure => have := HLT.out; simp [RowKit.intOf]; omega
        · obtain rfl : j = q := by omega
          obtain ⟨W, hW⟩ : ∃ q, wr = q := ⟨_, rfl⟩
          rw [hW] at HS HBW ⊢
          obtain ⟨A, hAe⟩ : ∃ A, ckK u j u = A := ⟨_, rfl⟩
          rw [hAe] at hA
          have hAu : ig A u = (j : Int) + 1 := by rw [← hAe, ckK_at, ig_set0 HU.out, if_pos rfl]
          have hckv : PosK 20 (ckK u j v) := by
            unfold ckK upC
            split
            · exact PosK.set0 (by decide) HU.out (by omega)
            · rw [ckJ_at HV.out]; exact PosK.set0 (by decide) HV.out (by decide)
          have HA := Lib.hid hA
          have HAU := Lib.hid hAu
          have HAE := Lib.hid hAe
          have HCV := Lib.hid hckv
          have j9 : j < 9 := by omega
          have hcl := rc_clock HS.out u HU.out
          rw [hAe] at hcl
          have HC1 := Lib.hid hcl
          clear hW hA hAu hAe hckv hcl
          go_upto_region 13 with (go_at_call 9; (with_reducible refine HC1.out.mono ?_); rintro e W1 ⟨g1, n1, rfl, hg0, hg1, hg2, hg3, hg4⟩; have HG0 := Lib.hid hg0; have HG1 := Lib.hid hg1; have HG2 := Lib.hid hg2; have HG3 := Lib.hid hg3; have HG4 := Lib.hid hg4; clear hg0 hg1 hg2 hg3 hg4)
          have HS1 := Lib.hid (HS.out.below HG4.out)
          have HNG : Hid (¬ F g1) := fun q => by have h1 := HS.out.ltF g1 q; have h2 := HG0.out; omega
          have hst := rc_store HS1.out u HU.out p HP.out (by omega) (by rw [HAE.out]; have := HA.out.2 u HU.out; omega)
          rw [HAE.out] at hst
          have HST := Lib.hid hst
          clear hst
          go_upto_region 14 with (go_at_call 8; (with_reducible refine HST.out.mono ?_); rintro e W2 ⟨rfl, hS2, hT2⟩; have HS2 := Lib.hid hS2; have HT2 := Lib.hid hT2; clear hS2 hT2)
          obtain ⟨ck2, hck2⟩ : ∃ c, upC (ckK u j) u (stepC A u) = c := ⟨_, rfl⟩
          have h2v : PosK 21 (ck2 v) := by
            rw [← hck2]
            unfold upC
            split
            · exact HA.out.step HU.out
            · exact HCV.out.mono (by decide)
          have h2u : ck2 u = stepC A u := by rw [← hck2]; exact if_pos rfl
          have h2A : ∀ x, x ≠ u → ck2 x = ckK u j x := fun x hx => by rw [← hck2]; exact if_neg hx
          rw [hck2] at HS2
          obtain ⟨f2, hf2⟩ : ∃ c, upO fs p A = c := ⟨_, rfl⟩
          rw [hf2] at HS2
          have hsy : syC f2 p = A := by rw [← hf2]; unfold syC; rw [upO_self]; rfl
          have hld := rc_load HS2.out v HV.out p HP.out
          rw [hsy] at hld
          obtain ⟨B, hB⟩ : ∃ B, mxC (ck2 v) A = B := ⟨_, rfl⟩
          rw [hB] at hld
          have hBP : PosK 21 B := by rw [← hB]; exact h2v.mx (HA.out.mono (by decide))
          have hAB : ∀ i, i < 65 → ig A i ≤ ig B i := fun i hi => by rw [← hB, mxC_ig h2v.1 HA.out.1 hi]; omega
          have HLD := Lib.hid hld
          have HBP := Lib.hid hBP
          have HAB := Lib.hid hAB
          have H2U := Lib.hid h2u
          have HBE := Lib.hid hB
          have H2V := Lib.hid h2v
          clear hck2 h2v h2u h2A hf2 hsy hld hB hBP hAB
          go_upto_region 15 with (go_at_call 10; (with_reducible refine HLD.out.mono ?_); rintro e W3 ⟨rfl, hS3, hT3⟩; have HS3 := Lib.hid hS3; have HT3 := Lib.hid hT3; clear hS3 hT3)
          obtain ⟨ck3, hck3⟩ : ∃ c, upC ck2 v B = c := ⟨_, rfl⟩
          rw [hck3] at HS3
          have h3v : ck3 v = B := by rw [← hck3]; exact if_pos rfl
          have h3u : PosK 22 (ck3 u) ∧ (j : Int) + 2 ≤ ig (ck3 u) u := by
            rw [← hck3]
            unfold upC
            have hAS := HA.out.step HU.out
            have e1 : ig (stepC A u) u = (j : Int) + 2 := by rw [stepC_ig HA.out.1 HU.out, if_pos rfl, HAU.out]; omega
            split
            · rename_i e
              subst e
              exact ⟨HBP.out.mono (by decide), by rw [← HBE.out, mxC_ig H2V.out.1 HA.out.1 HU.out, H2U.out, e1]; omega⟩
            · rw [H2U.out]
              exact ⟨hAS.mono (by decide), by rw [e1]; omega⟩
          have H3U := Lib.hid h3u
          have H3V := Lib.hid h3v
          have HK3 := Lib.hid hck3
          have hcl := rc_clock HS3.out v HV.out
          rw [h3v] at hcl
          have HC3 := Lib.hid hcl
          have HR3 : Hid (Rd W3 W3.heap.size (some ⟨g1, 0, none⟩) n1 ((A.take n1).map (.int .i64))) := (HG3.out.tch HT2.out HNG.out).tch HT3.out HNG.out
          clear hck3 h3v h3u hcl
          go_upto_region 16 with (first
            | (go_at_call 9; (with_reducible refine HC3.out.mono ?_); rintro e W4 ⟨g4, n4, rfl, hg0, hg1, hg2, hg3, hg4⟩; have HI4 := Lib.hid hg4; have hcc := cl_compare (some ⟨g1, 0, none⟩) n1 n1 (A.take n1) (some ⟨g4, 0, none⟩) n4 n4 (B.take n4) W4 ((HR3.out.below hg4).more hg4.size) HG1.out (Nat.le_refl _) hg3 hg1 (Nat.le_refl _); rw [HA.out.ofI_take HG2.out, HBP.out.ofI_take hg2] at hcc; have HCC := Lib.hid hcc; clear hg0 hg1 hg2 hg3 hg4 hcc)
            | (go_at_call 11; (with_reducible refine HCC.out.mono ?_); rintro e W5 ⟨rfl, hb5⟩; have HB5 := Lib.hid hb5; clear hb5))
          have HS5 := Lib.hid ((HS3.out.below HI4.out).below HB5.out)
          obtain ⟨k, hk⟩ : ∃ k, cmpC A B = k := ⟨_, rfl⟩
          have HKK : Hid (k = 0 ∨ k = -1) := by show _ ∨ _; rw [← hk]; exact cmpC_le HA.out.1 HBP.out.1 HAB.out
          rw [hk]
          have hcl := rc_clock HS5.out v HV.out
          rw [H3V.out] at hcl
          have HC5 := Lib.hid hcl
          clear hk hcl
          go_upto_region 17 with (go_at_call 9; (with_reducible refine HC5.out.mono ?_); rintro e W6 ⟨g6, n6, rfl, hg0, hg1, hg2, hg3, hg4⟩; have HM0 := Lib.hid hg0; have HM1 := Lib.hid hg1; have HM2 := Lib.hid hg2; have HM3 := Lib.hid hg3; have HM4 := Lib.hid hg4; clear hg0 hg1 hg2 hg3 hg4)
          have HS6 := Lib.hid (HS5.out.below HM4.out)
          have HNM : Hid (¬ F g6) := fun q => by have h1 := HS5.out.ltF g6 q; have h2 := HM0.out; omega
          have hst := rc_store HS6.out v HV.out o HO.out (by omega) (by rw [H3V.out]; have := HBP.out.2 v HV.out; omega)
          rw [H3V.out] at hst
          have HST2 := Lib.hid hst
          clear hst
          go_upto_region 18 with (go_at_call 8; (with_reducible refine HST2.out.mono ?_); rintro e W7 ⟨rfl, hS7, hT7⟩; have HS7 := Lib.hid hS7; have HT7 := Lib.hid hT7; clear hS7 hT7)
          obtain ⟨ck7, hck7⟩ : ∃ c, upC ck3 v (stepC B v) = c := ⟨_, rfl⟩
          rw [hck7] at HS7
          have h7v : ck7 v = stepC B v := by rw [← hck7]; exact if_pos rfl
          have h7u : PosK 23 (ck7 u) ∧ (j : Int) + 2 ≤ ig (ck7 u) u := by
            rw [← hck7]
            unfold upC
            have h3 := H3U.out
            split
            · rename_i e
              subst e
              rw [H3V.out] at h3
              exact ⟨(HBP.out.step HU.out).mono (by decide), by rw [stepC_ig HBP.out.1 HU.out, if_pos rfl]; omega⟩
            · exact ⟨h3.1.mono (by decide), h3.2⟩
          have hcl := rc_clock HS7.out v HV.out
          rw [h7v] at hcl
          have HC7 := Lib.hid hcl
          have hne : cmpC B (stepC B v) = -1 := cmpC_lt HBP.out.1 (stepC_len HBP.out.1 v) (fun i hi => by rw [stepC_ig HBP.out.1 HV.out]; split <;> (try rename_i h; try subst h) <;> omega) (fun e => by
            have := congrArg (fun c => ig c v) e
            simp only [stepC_ig HBP.out.1 HV.out, if_true] at this
            omega)
          have HNE := Lib.hid hne
          have HSP := Lib.hid (HBP.out.step HV.out)
          have HR7 : Hid (Rd W7 W7.heap.size (some ⟨g6, 0, none⟩) n6 ((B.take n6).map (.int .i64))) := HM3.out.tch HT7.out HNM.out
          have H7U := Lib.hid h7u
          clear hck7 h7v h7u hcl hne
          have hq := HQQ.out
          have e1 : wrap64 ((j : Int) + 2) = (j : Int) + 2 := by unfold wrap64; omega
          have HJ9 := Lib.hid j9
          have HS2' : Hid (∀ W : World, Below W7.heap.size W7 W → RcS W F xb sy da ck7 (upO f2 o B) (fun _ => none) (.slice none 0 0) 0 (j + 1 + 1)) := fun W h => HS7.out.below h
          rcases HKK.out with rfl | rfl
          all_goals
            go_wp2_with (first
              | (go_at_call 9; (with_reducible refine HC7.out.mono ?_); rintro e W8 ⟨g8, n8, rfl, hg0, hg1, hg2, hg3, hg4⟩; have HI8 := Lib.hid hg4; have hcc := cl_compare (some ⟨g6, 0, none⟩) n6 n6 (B.take n6) (some ⟨g8, 0, none⟩) n8 n8 ((stepC B v).take n8) W8 ((HR7.out.below hg4).more hg4.size) HM1.out (Nat.le_refl _) hg3 hg1 (Nat.le_refl _); rw [HBP.out.ofI_take HM2.out, HSP.out.ofI_take hg2, HNE.out] at hcc; have HCC8 := Lib.hid hcc; clear hg0 hg1 hg2 hg3 hg4 hcc)
              | (go_at_call 11; (with_reducible refine HCC8.out.mono ?_); rintro e W9 ⟨rfl, hb9⟩; have HI9 := Lib.hid (HI8.out.trans (hb9.mono HI8.out.size)); have HC9 := Lib.hid (rc_clock (HS2'.out W9 HI9.out) u HU.out); clear hb9)
              | (go_at_call 9; (with_reducible refine HC9.out.mono ?_); rintro e W10 ⟨g10, n10, rfl, hg0, hg1, hg2, hg3, hg4⟩; have HI10 := Lib.hid (HI9.out.trans (hg4.mono HI9.out.size)); have haa := cl_at (some ⟨g10, 0, none⟩) n10 n10 ((ck7 u).take n10) u HU.out W10 hg3 hg1 (Nat.le_refl _); rw [H7U.out.1.ofI_take hg2] at haa; obtain ⟨z, hz⟩ : ∃ z, ig (ck7 u) u = z := ⟨_, rfl⟩; rw [hz] at haa; have HAA := Lib.hid haa; have HZ := Lib.hid hz; have z1 : decide (z ≥ (j : Int) + 2) = true := (decide_eq_true (by have := H7U.out.2; rw [hz] at this; omega)); have z2 : (j : Int) + 2 ≤ z := (by have := H7U.out.2; rw [hz] at this; omega); clear hg0 hg1 hg2 hg3 hg4 haa hz)
              | (go_at_call 12; (with_reducible refine HAA.out.mono ?_); rintro e W11 ⟨rfl, hb11⟩; have HI11 := Lib.hid (HI10.out.trans (hb11.mono HI10.out.size)); clear hb11))
            have hT0 : Tch F W W7 := (((Tch.of_below (S := F) HG4.out).trans HT2.out (fun _ h => .inl h)).trans HT3.out (fun _ h => .inl h)).trans ((((Tch.of_below (S := F) HI4.out).trans (Tch.of_below (S := F) HB5.out) (fun _ h => .inl h)).trans (Tch.of_below (S := F) HM4.out) (fun _ h => .inl h)).trans HT7.out (fun _ h => .inl h)) (fun _ h => .inl h)
            have hB7 := HBW.out.trans (hT0.below HBW.out.size HFL.out)
            have HFIN := Lib.hid (hB7.trans (HI11.out.mono hB7.size))
            clear hT0 hB7
            go_ret
            exact ⟨rfl, HFIN.out⟩
    · have HBB := Lib.hid hb
      obtain ⟨u, rfl⟩ : ∃ u : Nat, a = (u : Int) := ⟨a.toNat, by omega⟩
      have t1 : decide ((u : Int) > 64) = false := decide_eq_false (by omega)
      have t3 : decide (64 < u) = false := decide_eq_false (by omega)
      cases t5 : decide (b < 0)
      all_goals
        first
          | have t6 : decide (b > 64) = true := decide_eq_true (by have := of_decide_eq_false t5; have := HBB.out; omega)
          | skip
        clear ha hb
        go_enter Try.func3, Try.ntmps3
        go_wp2_with (go_at_call 6; (refine HB.out.mono ?_); rintro e w1 ⟨rfl, hb1⟩; have HB1 := Lib.hid hb1; clear hb1)
        go_ret
        exact ⟨rfl, HB1.out⟩
  · have HAA := Lib.hid ha
    cases t5 : decide (a < 0)
    all_goals
      first
        | have t6 : decide (a > 64) = true := decide_eq_true (by have := of_decide_eq_false t5; have := HAA.out; omega)
        | skip
      clear ha
      go_enter Try.func3, Try.ntmps3
      go_wp2_with (go_at_call 6; (refine HB.out.mono ?_); rintro e w1 ⟨rfl, hb1⟩; have HB1 := Lib.hid hb1; clear hb1)
      go_ret
      exact ⟨rfl, HB1.out⟩
end Go.Proofs.Ytoodifpkconfcaa
