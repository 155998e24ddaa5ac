/- Planes: whether the ring is right, by the document. -/
import Derived.Test.YtbpcddimnbjoeaaPlT
import Derived.Deep.CutRange
namespace Go.Proofs.Ytbpcddimnbjoeaa
open Go.RowKit Go.Maps Go.ChangeMaps Go.MapKept
set_option maxRecDepth 100000 in
set_option maxHeartbeats 4000000 in
theorem rf_ringB (A : Option Addr) (n c : Nat) (ns : List ND) (en tp : Int) (w : World) (hg : PgAt w w.heap.size A n c ns) :
    Calls Try.prog 56 #[.agg (pgL A n c en tp)] w (RetB (ringB ns) w) := by
  obtain ⟨w1, hw1⟩ : ∃ x, w.alloc (.cells (pgL A n c en tp) 24) = x := ⟨_, rfl⟩
  obtain ⟨C1, b1⟩ := box_plane hw1
  have hlen := hg.len
  have hn := hg.2.1
  have HG := Lib.hid (hg.on b1 b1.size)
  have HC := Lib.hid C1
  have HL := Lib.hid hlen
  have c0 : w1.cell? ⟨w.heap.size, 0, none⟩ = some (.slice A n c) := C1.cell 0
  have HB := Lib.hid b1
  have hbl := Lib.hid C1.lt
  clear hg C1 hlen b1
  unfold pgL at hw1 ⊢
  go_enter Try.func56, Try.ntmps56
  go_upto_region 1 with fail
  (try rw [hw1])
  clear hw1
  go_wp2_with fail
  go_loopw [8] (fun s8 wr => ∃ j : Nat, j ≤ n ∧ s8 = .int .i64 j ∧ Hid (∀ k, k < j → rOk ns k = true) ∧ Hid (Below w1.heap.size w1 wr)) (fun s8 _ => n - (intOf s8).toNat)
  case atStart => exact ⟨0, Nat.zero_le _, rfl, Lib.hid (fun k hk => absurd hk (by omega)), Lib.hid (Below.refl _ _)⟩
  case round =>
    obtain ⟨j, hj, rfl, hq, hb'⟩ := hrel
    by_cases hlt : j < n
    · have bR := hb'.out
      have GR := HG.out.on bR bR.size
      obtain ⟨b, o, d, hA, hbb, hd, hr, hda⟩ := GR.node hlt
      have LN := node_load hr
      have SN := node_put wr d
      have K1 := node_at wr d
      have bX := node_bel wr d
      obtain ⟨X1, hX1⟩ : ∃ y, (wr.alloc (.cells nd0.cells 42)).setCells wr.heap.size 0 d.cells.toList = y := ⟨_, rfl⟩
      rw [hX1] at SN K1 bX
      rw [nd0_lit] at SN
      have bX1 := bR.trans (bX.mono bR.size)
      have HBX := Lib.hid bX1
      have HGX := Lib.hid (GR.on bX bX.size)
      have HCX := Lib.hid (HC.out.below bX1 hbl.out)
      have HKX := Lib.hid K1
      have hdn := nAt_of hd
      have hok : rOk ns j = if (decide (0 < j) && !thN ns j) then bareB d else placeB ns d.next && placeB ns d.prev && ((nAt ns d.next.toNat).prev == (j : Int)) := by unfold rOk; rw [hdn]
      have hjl : j < ns.length := by have := HL.out; omega
      have hbad := fun h => ringB_bad (ns := ns) hjl h
      have hst : rOk ns j = true → Hid (∀ k, k < j + 1 → rOk ns k = true) := by
        intro h k hk
        by_cases e : k = j
        · rw [e]; exact h
        · exact hq.out k (by omega)
      have LPX := plane_load HCX.out
      have hne1 : w1.heap.size ≤ wr.heap.size := bR.size
      have hcc0 : ∀ Y, Below X1.heap.size X1 Y → Y.cell? ⟨w.heap.size, 0, none⟩ = some (.slice A n c) := fun Y hY => (HCX.out.below hY HCX.out.lt).cell 0
      have HC0 := Lib.hid hcc0
      subst hA
      clear hd hr hda hdn hX1 K1 bX bX1 GR bR hcc0 hjl
      have HT := rf_there (some ⟨b, o, none⟩) n c ns en tp j X1 HGX.out
      rw [thB_nat] at HT
      replace HT := Lib.hid HT
      unfold pgL at LPX HT
      go_upto_region 4 with (first | refine wpList_loadE LN _ rfl rfl rfl ?_ | refine wpList_storeE SN _ _ rfl rfl rfl rfl ?_)
      clear LN SN
      obtain ⟨c1, hc1⟩ : ∃ c1 : Bool, c1 = (decide (0 < j) && !thN ns j) := ⟨_, rfl⟩
      have HC1 := Lib.hid hc1
      obtain ⟨c2, hc2⟩ : ∃ c2 : Bool, c2 = !(placeB ns d.next && placeB ns d.prev && ((nAt ns d.next.toNat).prev == (j : Int))) := ⟨_, rfl⟩
      have HC2 := Lib.hid hc2
      have hok : rOk ns j = if c1 then bareB d else !c2 := by rw [hok, hc1, hc2, Bool.not_not]
      have H5 : Hid (∀ Y, Below X1.heap.size X1 Y → Y.cell? ⟨wr.heap.size, 5, none⟩ = some (.int .i64 d.next)) := fun Y hY => (HKX.out.below hY HKX.out.lt).cell 5
      have H6 : Hid (∀ Y, Below X1.heap.size X1 Y → Y.cell? ⟨wr.heap.size, 6, none⟩ = some (.int .i64 d.prev)) := fun Y hY => (HKX.out.below hY HKX.out.lt).cell 6
      clear hc1 hc2
      simp only [Act.put]
      go_cut [20] from 13 to 20 (fun s20 wx => s20 = .bool c1 ∧ Hid (Below X1.heap.size X1 wx))
      case first =>
        by_cases h0 : 0 < j
        · have hd0 : decide (0 < j) = true := decide_eq_true h0
          obtain ⟨tj, htj⟩ : ∃ tj, thN ns j = tj := ⟨_, rfl⟩
          rw [htj] at HT
          have HV : Hid (c1 = !tj) := by show _ = _; rw [HC1.out, hd0, htj]; rfl
          clear htj hd0 hok hbad hst
          go_wp2_with (first
            | refine wpList_loadG LPX _ rfl rfl rfl ?_
            | (go_at_call 23; refine HT.out.mono ?_; rintro e w2 ⟨rfl, bt⟩; have HBT := Lib.hid bt; clear bt))
          go_meet
          exact ⟨by rw [HV.out], HBT⟩
        · have HV : Hid (c1 = false) := by show _ = _; rw [HC1.out, decide_eq_false h0]; rfl
          have bXX := Lib.hid (Below.refl X1.heap.size X1)
          clear hok hbad hst
          go_wp2_with fail
          go_meet
          exact ⟨by rw [HV.out], bXX⟩
      case rest =>
        obtain ⟨rfl, HB2⟩ := hcut
        clear HT LPX HC1
        cases hc1 : c1 with
        | true =>
          have d3 : wc.cell? ⟨wr.heap.size, 3, none⟩ = some (.int .i64 d.level) := (HKX.out.below HB2.out HKX.out.lt).cell 3
          have d4 : wc.cell? ⟨wr.heap.size, 4, none⟩ = some (.slice d.LA d.ln d.lc) := (HKX.out.below HB2.out HKX.out.lt).cell 4
          have d5 := H5.out wc HB2.out
          have d6 := H6.out wc HB2.out
          cases t1 : (d.next == -1) with
          | false =>
            have nt1 : (d.next != -1) = true := by simp [bne, t1]
            have HR : Hid (ringB ns = false) := hbad (by rw [hok, hc1, if_pos rfl]; unfold bareB; rw [t1]; rfl)
            clear hok hbad hst t1
            go_wp2_with fail
            go_ret
            exact ⟨by rw [HR.out]; rfl, HB.out.trans ((HBX.out.trans (HB2.out.mono HBX.out.size)).mono HB.out.size)⟩
          | true =>
            have nt1 : (d.next != -1) = false := by simp [bne, t1]
            cases t2 : (d.prev == -1) with
            | false =>
              have nt2 : (d.prev != -1) = true := by simp [bne, t2]
              have HR : Hid (ringB ns = false) := hbad (by rw [hok, hc1, if_pos rfl]; unfold bareB; rw [t1, t2]; rfl)
              clear hok hbad hst t1 t2
              go_wp2_with fail
              go_ret
              exact ⟨by rw [HR.out]; rfl, HB.out.trans ((HBX.out.trans (HB2.out.mono HBX.out.size)).mono HB.out.size)⟩
            | true =>
              have nt2 : (d.prev != -1) = false := by simp [bne, t2]
              cases t3 : (d.level == 0) with
              | false =>
                have nt3 : (d.level != 0) = true := by simp [bne, t3]
                have HR : Hid (ringB ns = false) := hbad (by rw [hok, hc1, if_pos rfl]; unfold bareB; rw [t1, t2, t3]; rfl)
                clear hok hbad hst t1 t2 t3
                go_wp2_with fail
                go_ret
                exact ⟨by rw [HR.out]; rfl, HB.out.trans ((HBX.out.trans (HB2.out.mono HBX.out.size)).mono HB.out.size)⟩
              | true =>
                have nt3 : (d.level != 0) = false := by simp [bne, t3]
                cases t4 : ((d.ln : Int) == 0) with
                | false =>
                  have nt4 : ((d.ln : Int) != 0) = true := by simp [bne, t4]
                  have HR : Hid (ringB ns = false) := hbad (by rw [hok, hc1, if_pos rfl]; unfold bareB; rw [t1, t2, t3, t4]; rfl)
                  clear hok hbad hst t1 t2 t3 t4
                  go_wp2_with fail
                  go_ret
                  exact ⟨by rw [HR.out]; rfl, HB.out.trans ((HBX.out.trans (HB2.out.mono HBX.out.size)).mono HB.out.size)⟩
                | true =>
                  have nt4 : ((d.ln : Int) != 0) = false := by simp [bne, t4]
                  have HQ := hst (by rw [hok, hc1, if_pos rfl]; unfold bareB; rw [t1, t2, t3, t4]; rfl)
                  clear hok hbad hst
                  go_wp2_with fail
                  have HBN := Lib.hid (HBX.out.trans (HB2.out.mono HBX.out.size))
                  go_roundw
                  case rel => exact ⟨j + 1, by omega, by go_num, HQ, HBN⟩
                  case measure => simp [intOf]; omega
        | false =>
          have hok : rOk ns j = !c2 := by rw [hok, hc1]; rfl
          clear hc1
          go_upto_region 7 with fail
          go_cut [72] from 40 to 72 (fun s72 wx => s72 = .bool c2 ∧ Hid (Below X1.heap.size X1 wx))
          case first =>
            clear hok hbad hst
            by_cases hz : d.next = 0
            · have nz : (d.next != 0) = false := by simp [hz]
              have p1 : placeB ns d.next = true := by unfold placeB; simp [hz]
              obtain ⟨nx, hnx, hnl⟩ := place_nat (by have := HL.out; omega) p1
              have hnxn : nx < n := by have := HL.out; omega
              obtain ⟨pv, hpv⟩ : ∃ pv, (nAt ns nx).prev = pv := ⟨_, rfl⟩
              have HPV : Hid (∀ Y, Below X1.heap.size X1 Y → Y.cell? ⟨b, o + nx * 7 + 6, none⟩ = some (.int .i64 pv)) := by
                intro Y hY
                obtain ⟨b9, o9, e9, _, hc9⟩ := (HGX.out.on hY hY.size).prev (i := nx) (by have := HL.out; omega)
                injection e9 with e9
                injection e9 with e1 e2
                subst e1 e2
                rw [hc9, hpv]
              have hc2 : c2 = !(placeB ns d.prev && (pv == (j : Int))) := by rw [HC2.out, p1, hnx, Int.toNat_natCast, hpv]; rfl
              have H5N : Hid (∀ Y, Below X1.heap.size X1 Y → Y.cell? ⟨wr.heap.size, 5, none⟩ = some (.int .i64 (nx : Int))) := fun Y hY => by rw [← hnx]; exact H5.out Y hY
              have d5 := H5N.out wc HB2.out
              rw [hnx] at nz
              by_cases hzp : d.prev = 0
              · have np : (d.prev != 0) = false := by simp [hzp]
                have p2 : placeB ns d.prev = true := by unfold placeB; simp [hzp]
                cases q : (pv == (j : Int)) with
                | false =>
                  have HV : Hid (c2 = true) := by show _ = _; rw [hc2, p2, q]; rfl
                  have hne : (pv != (j : Int)) = true := by simp [bne, q]
                  have d6 := H6.out wc HB2.out
                  have x6 := HPV.out wc HB2.out
                  have x0 := HC0.out wc HB2.out
                  clear p1 p2 hnx hpv hc2 q
                  go_wp2_with fail
                  go_meet
                  exact ⟨by rw [HV.out], HB2⟩
                | true =>
                  have HV : Hid (c2 = false) := by show _ = _; rw [hc2, p2, q]; rfl
                  have hne : (pv != (j : Int)) = false := by simp [bne, q]
                  have d6 := H6.out wc HB2.out
                  have x6 := HPV.out wc HB2.out
                  have x0 := HC0.out wc HB2.out
                  clear p1 p2 hnx hpv hc2 q
                  go_wp2_with fail
                  go_meet
                  exact ⟨by rw [HV.out], HB2⟩
              · have np : (d.prev != 0) = true := by simp [hzp]
                cases ht2 : thB ns d.prev with
                | false =>
                  have p2 : placeB ns d.prev = false := by unfold placeB; rw [ht2]; simp [hzp]
                  have P2 := Lib.hid ht2
                  have HV : Hid (c2 = true) := by show _ = _; rw [hc2, p2]; rfl
                  have LPB := plane_load (HCX.out.below HB2.out HCX.out.lt)
                  have HT2 := rf_there (some ⟨b, o, none⟩) n c ns en tp d.prev wc (HGX.out.on HB2.out HB2.out.size)
                  rw [P2.out] at HT2
                  unfold pgL at LPB HT2
                  replace HT2 := Lib.hid HT2
                  have d6 := H6.out wc HB2.out
                  clear p1 p2 hnx hpv hc2 ht2 
                  go_wp2_with (first | ((with_reducible refine wpList_loadG (op := ⟨some 55, _, _, _, _, _⟩) LPB ?lgX ?lgW ?lgO ?lgE ?_); (case lgO => exact rfl); (case lgE => exact rfl); (case lgW => kernel_rfl)) | (go_at_call 23; (with_reducible refine HT2.out.mono ?_); rintro e w4 ⟨rfl, b4⟩; have HB4 := Lib.hid (HB2.out.trans (b4.mono HB2.out.size)); have x5 := H5N.out w4 HB4.out; have x6 := HPV.out w4 HB4.out; have x0 := HC0.out w4 HB4.out; clear b4))
                  go_meet
                  exact ⟨by rw [HV.out], HB4⟩
                | true =>
                  have p2 : placeB ns d.prev = true := by unfold placeB; rw [ht2]; simp
                  have P2 := Lib.hid ht2
                  cases q : (pv == (j : Int)) with
                  | false =>
                    have HV : Hid (c2 = true) := by show _ = _; rw [hc2, p2, q]; rfl
                    have hne : (pv != (j : Int)) = true := by simp [bne, q]
                    have LPB := plane_load (HCX.out.below HB2.out HCX.out.lt)
                    have HT2 := rf_there (some ⟨b, o, none⟩) n c ns en tp d.prev wc (HGX.out.on HB2.out HB2.out.size)
                    rw [P2.out] at HT2
                    unfold pgL at LPB HT2
                    replace HT2 := Lib.hid HT2
                    have d6 := H6.out wc HB2.out
                    clear p1 p2 hnx hpv hc2 ht2 q
                    go_wp2_with (first | ((with_reducible refine wpList_loadG (op := ⟨some 55, _, _, _, _, _⟩) LPB ?lgX ?lgW ?lgO ?lgE ?_); (case lgO => exact rfl); (case lgE => exact rfl); (case lgW => kernel_rfl)) | (go_at_call 23; (with_reducible refine HT2.out.mono ?_); rintro e w4 ⟨rfl, b4⟩; have HB4 := Lib.hid (HB2.out.trans (b4.mono HB2.out.size)); have x5 := H5N.out w4 HB4.out; have x6 := HPV.out w4 HB4.out; have x0 := HC0.out w4 HB4.out; clear b4))
                    go_meet
                    exact ⟨by rw [HV.out], HB4⟩
                  | true =>
                    have HV : Hid (c2 = false) := by show _ = _; rw [hc2, p2, q]; rfl
                    have hne : (pv != (j : Int)) = false := by simp [bne, q]
                    have LPB := plane_load (HCX.out.below HB2.out HCX.out.lt)
                    have HT2 := rf_there (some ⟨b, o, none⟩) n c ns en tp d.prev wc (HGX.out.on HB2.out HB2.out.size)
                    rw [P2.out] at HT2
                    unfold pgL at LPB HT2
                    replace HT2 := Lib.hid HT2
                    have d6 := H6.out wc HB2.out
                    clear p1 p2 hnx hpv hc2 ht2 q
                    go_wp2_with (first | ((with_reducible refine wpList_loadG (op := ⟨some 55, _, _, _, _, _⟩) LPB ?lgX ?lgW ?lgO ?lgE ?_); (case lgO => exact rfl); (case lgE => exact rfl); (case lgW => kernel_rfl)) | (go_at_call 23; (with_reducible refine HT2.out.mono ?_); rintro e w4 ⟨rfl, b4⟩; have HB4 := Lib.hid (HB2.out.trans (b4.mono HB2.out.size)); have x5 := H5N.out w4 HB4.out; have x6 := HPV.out w4 HB4.out; have x0 := HC0.out w4 HB4.out; clear b4))
                    go_meet
                    exact ⟨by rw [HV.out], HB4⟩
            · have nz : (d.next != 0) = true := by simp [hz]
              cases ht1 : thB ns d.next with
              | false =>
                have p1 : placeB ns d.next = false := by unfold placeB; rw [ht1]; simp [hz]
                have HT1 := rf_there (some ⟨b, o, none⟩) n c ns en tp d.next wc (HGX.out.on HB2.out HB2.out.size)
                rw [ht1] at HT1
                replace HT1 := Lib.hid HT1
                have LPA := plane_load (HCX.out.below HB2.out HCX.out.lt)
                have d5 := H5.out wc HB2.out
                have HV : Hid (c2 = true) := by show _ = _; rw [HC2.out, p1]; rfl
                clear p1 ht1 hz
                unfold pgL at LPA HT1
                go_wp2_with (first | ((with_reducible refine wpList_loadG (op := ⟨some 44, _, _, _, _, _⟩) LPA ?lgX ?lgW ?lgO ?lgE ?_); (case lgO => exact rfl); (case lgE => exact rfl); (case lgW => kernel_rfl)) | (go_at_call 23; refine HT1.out.mono ?_; rintro e w3 ⟨rfl, b3⟩; have HB3 := Lib.hid (HB2.out.trans (b3.mono HB2.out.size)); clear b3))
                go_meet
                exact ⟨by rw [HV.out], HB3⟩
              | true =>
                have p1 : placeB ns d.next = true := by unfold placeB; rw [ht1]; simp
                obtain ⟨nx, hnx, hnl⟩ := place_nat (by have := HL.out; omega) p1
                have hnxn : nx < n := by have := HL.out; omega
                obtain ⟨pv, hpv⟩ : ∃ pv, (nAt ns nx).prev = pv := ⟨_, rfl⟩
                have HPV : Hid (∀ Y, Below X1.heap.size X1 Y → Y.cell? ⟨b, o + nx * 7 + 6, none⟩ = some (.int .i64 pv)) := by
                  intro Y hY
                  obtain ⟨b9, o9, e9, _, hc9⟩ := (HGX.out.on hY hY.size).prev (i := nx) (by have := HL.out; omega)
                  injection e9 with e9
                  injection e9 with e1 e2
                  subst e1 e2
                  rw [hc9, hpv]
                have hc2 : c2 = !(placeB ns d.prev && (pv == (j : Int))) := by rw [HC2.out, p1, hnx, Int.toNat_natCast, hpv]; rfl
                have H5N : Hid (∀ Y, Below X1.heap.size X1 Y → Y.cell? ⟨wr.heap.size, 5, none⟩ = some (.int .i64 (nx : Int))) := fun Y hY => by rw [← hnx]; exact H5.out Y hY
                have HT1 := rf_there (some ⟨b, o, none⟩) n c ns en tp d.next wc (HGX.out.on HB2.out HB2.out.size)
                rw [ht1, hnx] at HT1
                replace HT1 := Lib.hid HT1
                have LPA := plane_load (HCX.out.below HB2.out HCX.out.lt)
                have d5 := H5N.out wc HB2.out
                rw [hnx] at nz
                unfold pgL at LPA HT1
                clear ht1
                by_cases hzp : d.prev = 0
                · have np : (d.prev != 0) = false := by simp [hzp]
                  have p2 : placeB ns d.prev = true := by unfold placeB; simp [hzp]
                  cases q : (pv == (j : Int)) with
                  | false =>
                    have HV : Hid (c2 = true) := by show _ = _; rw [hc2, p2, q]; rfl
                    have hne : (pv != (j : Int)) = true := by simp [bne, q]
                    clear p1 p2 hnx hpv hc2 q
                    go_wp2_with (first | ((with_reducible refine wpList_loadG (op := ⟨some 44, _, _, _, _, _⟩) LPA ?lgX ?lgW ?lgO ?lgE ?_); (case lgO => exact rfl); (case lgE => exact rfl); (case lgW => kernel_rfl)) | (go_at_call 23; (with_reducible refine HT1.out.mono ?_); rintro e w3 ⟨rfl, b3⟩; have HB3 := Lib.hid (HB2.out.trans (b3.mono HB2.out.size)); have d6 := H6.out w3 HB3.out; have x5 := H5N.out w3 HB3.out; have x6 := HPV.out w3 HB3.out; have x0 := HC0.out w3 HB3.out; clear b3))
                    go_meet
                    exact ⟨by rw [HV.out], HB3⟩
                  | true =>
                    have HV : Hid (c2 = false) := by show _ = _; rw [hc2, p2, q]; rfl
                    have hne : (pv != (j : Int)) = false := by simp [bne, q]
                    clear p1 p2 hnx hpv hc2 q
                    go_wp2_with (first | ((with_reducible refine wpList_loadG (op := ⟨some 44, _, _, _, _, _⟩) LPA ?lgX ?lgW ?lgO ?lgE ?_); (case lgO => exact rfl); (case lgE => exact rfl); (case lgW => kernel_rfl)) | (go_at_call 23; (with_reducible refine HT1.out.mono ?_); rintro e w3 ⟨rfl, b3⟩; have HB3 := Lib.hid (HB2.out.trans (b3.mono HB2.out.size)); have d6 := H6.out w3 HB3.out; have x5 := H5N.out w3 HB3.out; have x6 := HPV.out w3 HB3.out; have x0 := HC0.out w3 HB3.out; clear b3))
                    go_meet
                    exact ⟨by rw [HV.out], HB3⟩
                · have np : (d.prev != 0) = true := by simp [hzp]
                  cases ht2 : thB ns d.prev with
                  | false =>
                    have p2 : placeB ns d.prev = false := by unfold placeB; rw [ht2]; simp [hzp]
                    have P2 := Lib.hid ht2
                    have HV : Hid (c2 = true) := by show _ = _; rw [hc2, p2]; rfl
                    clear p1 p2 hnx hpv hc2 ht2 
                    go_wp2_with (first | ((with_reducible refine wpList_loadG (op := ⟨some 44, _, _, _, _, _⟩) LPA ?lgX ?lgW ?lgO ?lgE ?_); (case lgO => exact rfl); (case lgE => exact rfl); (case lgW => kernel_rfl)) | (go_at_call 23; (with_reducible refine HT1.out.mono ?_); rintro e w3 ⟨rfl, b3⟩; have HB3 := Lib.hid (HB2.out.trans (b3.mono HB2.out.size)); have d6 := H6.out w3 HB3.out; have LPB := plane_load (HCX.out.below HB3.out HCX.out.lt); have HT2 := rf_there (some ⟨b, o, none⟩) n c ns en tp d.prev w3 (HGX.out.on HB3.out HB3.out.size); rw [P2.out] at HT2; unfold pgL at LPB HT2; replace HT2 := Lib.hid HT2; clear b3) | ((with_reducible refine wpList_loadG (op := ⟨some 55, _, _, _, _, _⟩) LPB ?lgX ?lgW ?lgO ?lgE ?_); (case lgO => exact rfl); (case lgE => exact rfl); (case lgW => kernel_rfl)) | (go_at_call 23; (with_reducible refine HT2.out.mono ?_); rintro e w4 ⟨rfl, b4⟩; have HB4 := Lib.hid (HB3.out.trans (b4.mono HB3.out.size)); have x5 := H5N.out w4 HB4.out; have x6 := HPV.out w4 HB4.out; have x0 := HC0.out w4 HB4.out; clear b4))
                    go_meet
                    exact ⟨by rw [HV.out], HB4⟩
                  | true =>
                    have p2 : placeB ns d.prev = true := by unfold placeB; rw [ht2]; simp
                    have P2 := Lib.hid ht2
                    cases q : (pv == (j : Int)) with
                    | false =>
                      have HV : Hid (c2 = true) := by show _ = _; rw [hc2, p2, q]; rfl
                      have hne : (pv != (j : Int)) = true := by simp [bne, q]
                      clear p1 p2 hnx hpv hc2 ht2 q
                      go_wp2_with (first | ((with_reducible refine wpList_loadG (op := ⟨some 44, _, _, _, _, _⟩) LPA ?lgX ?lgW ?lgO ?lgE ?_); (case lgO => exact rfl); (case lgE => exact rfl); (case lgW => kernel_rfl)) | (go_at_call 23; (with_reducible refine HT1.out.mono ?_); rintro e w3 ⟨rfl, b3⟩; have HB3 := Lib.hid (HB2.out.trans (b3.mono HB2.out.size)); have d6 := H6.out w3 HB3.out; have LPB := plane_load (HCX.out.below HB3.out HCX.out.lt); have HT2 := rf_there (some ⟨b, o, none⟩) n c ns en tp d.prev w3 (HGX.out.on HB3.out HB3.out.size); rw [P2.out] at HT2; unfold pgL at LPB HT2; replace HT2 := Lib.hid HT2; clear b3) | ((with_reducible refine wpList_loadG (op := ⟨some 55, _, _, _, _, _⟩) LPB ?lgX ?lgW ?lgO ?lgE ?_); (case lgO => exact rfl); (case lgE => exact rfl); (case lgW => kernel_rfl)) | (go_at_call 23; (with_reducible refine HT2.out.mono ?_); rintro e w4 ⟨rfl, b4⟩; have HB4 := Lib.hid (HB3.out.trans (b4.mono HB3.out.size)); have x5 := H5N.out w4 HB4.out; have x6 := HPV.out w4 HB4.out; have x0 := HC0.out w4 HB4.out; clear b4))
                      go_meet
                      exact ⟨by rw [HV.out], HB4⟩
                    | true =>
                      have HV : Hid (c2 = false) := by show _ = _; rw [hc2, p2, q]; rfl
                      have hne : (pv != (j : Int)) = false := by simp [bne, q]
                      clear p1 p2 hnx hpv hc2 ht2 q
                      go_wp2_with (first | ((with_reducible refine wpList_loadG (op := ⟨some 44, _, _, _, _, _⟩) LPA ?lgX ?lgW ?lgO ?lgE ?_); (case lgO => exact rfl); (case lgE => exact rfl); (case lgW => kernel_rfl)) | (go_at_call 23; (with_reducible refine HT1.out.mono ?_); rintro e w3 ⟨rfl, b3⟩; have HB3 := Lib.hid (HB2.out.trans (b3.mono HB2.out.size)); have d6 := H6.out w3 HB3.out; have LPB := plane_load (HCX.out.below HB3.out HCX.out.lt); have HT2 := rf_there (some ⟨b, o, none⟩) n c ns en tp d.prev w3 (HGX.out.on HB3.out HB3.out.size); rw [P2.out] at HT2; unfold pgL at LPB HT2; replace HT2 := Lib.hid HT2; clear b3) | ((with_reducible refine wpList_loadG (op := ⟨some 55, _, _, _, _, _⟩) LPB ?lgX ?lgW ?lgO ?lgE ?_); (case lgO => exact rfl); (case lgE => exact rfl); (case lgW => kernel_rfl)) | (go_at_call 23; (with_reducible refine HT2.out.mono ?_); rintro e w4 ⟨rfl, b4⟩; have HB4 := Lib.hid (HB3.out.trans (b4.mono HB3.out.size)); have x5 := H5N.out w4 HB4.out; have x6 := HPV.out w4 HB4.out; have x0 := HC0.out w4 HB4.out; clear b4))
                      go_meet
                      exact ⟨by rw [HV.out], HB4⟩
          case rest =>
            obtain ⟨rfl, HB3⟩ := hcut
            cases hc2 : c2 with
            | true =>
              have HR : Hid (ringB ns = false) := hbad (by rw [hok, hc2]; rfl)
              clear hok hbad hst hc2
              go_wp2_with fail
              go_ret
              exact ⟨by rw [HR.out]; rfl, HB.out.trans ((HBX.out.trans (HB3.out.mono HBX.out.size)).mono HB.out.size)⟩
            | false =>
              have HQ := hst (by rw [hok, hc2]; rfl)
              clear hok hbad hst hc2
              go_wp2_with fail
              have HBN := Lib.hid (HBX.out.trans (HB3.out.mono HBX.out.size))
              go_roundw
              case rel => exact ⟨j + 1, by omega, by go_num, HQ, HBN⟩
              case measure => simp [intOf]; omega
    · obtain rfl : n = j := by omega
      have hv := ringB_all (ns := ns) (fun k hk => hq.out k (by have := HL.out; omega))
      have bR : Below w1.heap.size w1 wr := hb'.out
      have KR := HC.out.below bR hbl.out
      have GR := HG.out.on bR bR.size
      have HKR := Lib.hid KR
      have HGR := Lib.hid GR
      have HBR := Lib.hid (HB.out.trans (bR.mono HB.out.size))
      have HV := Lib.hid hv
      clear hv bR KR GR hq hb'
      go_wp2_with fail
      refine wp_region_held_drew (S := fun w' => Below wr.heap.size wr w') (by kernel_rfl) (below_drewN (Below.refl _ wr) 1) (fun hH => ?_)
      refine wpAnyH_take (i := 0) (v := .agg (pgL A n c en tp)) rfl (by kernel_rfl) (by kernel_rfl) (by kernel_rfl) (fun _ _ _ h => h) (yieldsIf_loadP (by rfl) _ rfl rfl (fun _ q => plane_load (HKR.out.below q HKR.out.lt))) hH ?_
      (try simp only [List.getElem_toArray, List.getElem_cons_zero, Act.put, List.setIfInBounds_toArray, List.set_cons_zero, List.set_cons_succ])
      refine wpAnyH_take (i := 3) (v := .agg (pgL A n c en tp)) rfl (by kernel_rfl) (by kernel_rfl) (by kernel_rfl) (fun _ _ _ h => h) (yieldsIf_loadP (by rfl) _ rfl rfl (fun _ q => plane_load (HKR.out.below q HKR.out.lt))) hH ?_
      (try simp only [List.getElem_toArray, List.getElem_cons_zero, List.getElem_cons_succ, Act.put, List.setIfInBounds_toArray, List.set_cons_zero, List.set_cons_succ])
      refine wpAnyH_call 1 73 #[.agg (pgL A n c en tp)] _ (by kernel_rfl) (by rfl) (by kernel_rfl) (by kernel_rfl) (rf_ring A n c ns en tp _ (HGR.out.on hH hH.size)) ?_
      rintro e Z1 ⟨A1, n1, c1, rfl, o1, bz⟩
      have hH1 : Below wr.heap.size wr Z1 := hH.trans (bz.mono hH.size)
      have l1 := Lib.hid o1.len
      clear bz o1
      refine ⟨_, rfl, hH1, ?_⟩
      clear hH
      (try simp only [List.getElem_toArray, List.getElem_cons_zero, List.getElem_cons_succ, Act.put, List.setIfInBounds_toArray, List.set_cons_zero, List.set_cons_succ])
      refine wpAnyH_take (i := 2) (v := .int .i64 n1) rfl (by kernel_rfl) (by kernel_rfl) (by kernel_rfl) (fun _ _ _ h => h) (.inl ⟨by rfl, fun _ _ => by kernel_rfl⟩) hH1 ?_
      (try simp only [List.getElem_toArray, List.getElem_cons_zero, List.getElem_cons_succ, Act.put, List.setIfInBounds_toArray, List.set_cons_zero, List.set_cons_succ])
      refine wpAnyH_call 4 57 #[.agg (pgL A n c en tp)] _ (by kernel_rfl) (by rfl) (by kernel_rfl) (by kernel_rfl) (rf_live A n c ns en tp _ (HGR.out.on hH1 hH1.size)) ?_
      rintro e Z2 ⟨A2, n2, c2, rfl, o2, bz⟩
      have hH2 : Below wr.heap.size wr Z2 := hH1.trans (bz.mono hH1.size)
      have l2 := Lib.hid o2.len
      clear bz o2 hH1
      refine ⟨_, rfl, hH2, ?_⟩
      (try simp only [List.getElem_toArray, List.getElem_cons_zero, List.getElem_cons_succ, Act.put, List.setIfInBounds_toArray, List.set_cons_zero, List.set_cons_succ])
      refine wpAnyH_take (i := 5) (v := .int .i64 n2) rfl (by kernel_rfl) (by kernel_rfl) (by kernel_rfl) (fun _ _ _ h => h) (.inl ⟨by rfl, fun _ _ => by kernel_rfl⟩) hH2 ?_
      (try simp only [List.getElem_toArray, List.getElem_cons_zero, List.getElem_cons_succ, Act.put, List.setIfInBounds_toArray, List.set_cons_zero, List.set_cons_succ])
      refine wpAnyH_take (i := 6) rfl (by kernel_rfl) (by kernel_rfl) (by kernel_rfl) (fun _ _ _ h => h) (yieldsIf_eqlI (by rfl) _ _ rfl rfl rfl) hH2 ?_
      (try simp only [List.getElem_toArray, List.getElem_cons_zero, List.getElem_cons_succ, Act.put, List.setIfInBounds_toArray, List.set_cons_zero, List.set_cons_succ])
      refine wpAnyH_take (i := 7) (v := .bool ((n1 : Int) == (n2 : Int))) rfl (by kernel_rfl) (by kernel_rfl) (by kernel_rfl) (fun _ _ _ h => h) (.inl ⟨by rfl, fun _ _ => by kernel_rfl⟩) hH2 ?_
      (try simp only [List.getElem_toArray, List.getElem_cons_zero, List.getElem_cons_succ, Act.put, List.setIfInBounds_toArray, List.set_cons_zero, List.set_cons_succ])
      refine wpAnyH_done (by kernel_rfl) ?_ _
      have HRR : Hid (ringB ns = ((n1 : Int) == (n2 : Int))) := by show _ = _; rw [HV.out, l1.out, l2.out]
      have HBB := Lib.hid (HBR.out.trans (hH2.mono HBR.out.size))
      obtain ⟨rb, hrb⟩ : ∃ rb, ((n1 : Int) == (n2 : Int)) = rb := ⟨_, rfl⟩
      rw [hrb] at HRR ⊢
      clear hrb hH2 HV l1 l2
      go_wp2_with fail
      go_ret
      exact ⟨by rw [HRR.out]; rfl, HBB.out⟩
end Go.Proofs.Ytbpcddimnbjoeaa
