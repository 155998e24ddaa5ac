/- Planes: whether a node is right, by the document. -/
import Derived.Test.YtbpcddimnbjoeaaPlZ
import Derived.Deep.CutRange
namespace Go.Proofs.Ytbpcddimnbjoeaa
open Go.RowKit Go.Maps Go.ChangeMaps Go.MapKept
theorem shape_iff {d : ND} (h : shapeB d = true) : 0 ≤ d.level ∧ d.level ≤ 7 ∧ (d.ln : Int) = d.level + 1 := by
  unfold shapeB at h
  simp only [Bool.and_eq_true, Bool.not_eq_true', decide_eq_false_iff_not, bne_eq_false_iff_eq] at h
  omega
/-- A node's place in the plane's row. -/
theorem PgAt.ids {w : World} {B : Nat} {A : Option Addr} {n c : Nat} {ns : List ND} (h : PgAt w B A n c ns) {i : Nat} (hi : i < n) : ∃ b o, A = some ⟨b, o, none⟩ ∧ b < B ∧ w.cell? ⟨b, o + i * 7, none⟩ = some (.int .u64 (nAt ns i).id) := by
  obtain ⟨b, o, d, e, hb, hd, hr, _⟩ := h.node hi
  rw [nAt_of hd]
  exact ⟨b, o, e, hb, hr 0 _ rfl⟩
theorem ig_mem {xs : List Int} {k : Nat} (h : k < xs.length) : ig xs k ∈ xs := by
  unfold ig
  rw [List.getD_eq_getElem?_getD, List.getElem?_eq_getElem h]
  exact List.getElem_mem h
/-- A node's lists, at any world with all that lies here. -/
theorem ND.At.lstY {X : World} {d : ND} (h : d.At X X.heap.size) : Hid (∀ l, l < d.ln → ∃ b2 o2 lA m cc xs, d.LA = some ⟨b2, o2, none⟩ ∧ (lsAt d l).xs = xs ∧ m ≤ 1048576 ∧ m ≤ cc ∧ xs.length = m ∧ (lA = none → m = 0 ∧ cc = 0) ∧
    Hid (∀ Y, Below X.heap.size X Y → Y.cell? ⟨b2, o2 + l, none⟩ = some (.slice lA m cc)) ∧ Hid (∀ Y, Below X.heap.size X Y → Rd Y Y.heap.size lA m (xs.map (.int .i64))) ∧ Hid (∀ x ∈ xs, (Lit.int .i64 x).wf = true)) := by
  intro l hl
  obtain ⟨b2, o2, e, hb, hc, ha⟩ := nd_list h hl
  have hcap := h.cap hl
  refine ⟨b2, o2, (lsAt d l).A, (lsAt d l).n, (lsAt d l).c, (lsAt d l).xs, e, rfl, ha.2.1, hcap, ha.len, ha.1, fun Y hY => (hY.cell (p := ⟨b2, o2 + l, none⟩) hb).trans hc, fun Y hY => (ha.2.2.1.below hY).more hY.size, ha.2.2.2⟩
theorem PgAt.lstY {X : World} {A : Option Addr} {n c : Nat} {ns : List ND} (h : PgAt X X.heap.size A n c ns) {i : Nat} (hi : i < n) : ∃ b o LA ln lc, A = some ⟨b, o, none⟩ ∧ (nAt ns i).ln = ln ∧ ln ≤ 1048576 ∧
    Hid (∀ Y, Below X.heap.size X Y → Y.cell? ⟨b, o + i * 7 + 4, none⟩ = some (.slice LA ln lc)) ∧
    Hid (∀ l, l < ln → ∃ b2 o2 lA m cc xs, LA = some ⟨b2, o2, none⟩ ∧ (lsAt (nAt ns i) l).xs = xs ∧ m ≤ 1048576 ∧ m ≤ cc ∧ xs.length = m ∧ (lA = none → m = 0 ∧ cc = 0) ∧
      Hid (∀ Y, Below X.heap.size X Y → Y.cell? ⟨b2, o2 + l, none⟩ = some (.slice lA m cc)) ∧ Hid (∀ Y, Below X.heap.size X Y → Rd Y Y.heap.size lA m (xs.map (.int .i64))) ∧ Hid (∀ x ∈ xs, (Lit.int .i64 x).wf = true)) := by
  obtain ⟨b, o, e, hb, hc, ha⟩ := h.lists hi
  exact ⟨b, o, _, _, _, e, rfl, ha.2.2.1, fun Y hY => (hY.cell (p := ⟨b, o + i * 7 + 4, none⟩) hb).trans hc, ha.lstY⟩
theorem cast_beq (k s : Nat) : ((k : Int) == (s : Int)) = (k == s) := by
  rw [Bool.eq_iff_iff, beq_iff_eq, beq_iff_eq]; omega
theorem cast_bne (k s : Nat) : ((k : Int) != (s : Int)) = (k != s) := by unfold bne; rw [cast_beq]
theorem list_parts {ns : List ND} {slot level : Nat} {links : Int} {xs : List Int} {n : Nat} (h : (lsAt (nAt ns slot) level).xs = xs) (hn : ns.length = n) : listB ns slot level links = (rightB xs slot links level ((n : Int) - 1) && xs.all (backB ns slot level)) := by
  unfold listB; rw [h, hn]
set_option maxRecDepth 100000 in
set_option maxHeartbeats 800000 in
theorem rf_node (A : Option Addr) (n c : Nat) (ns : List ND) (en tp : Int) (slot : Nat) (links : Int) (w : World) (hg : PgAt w w.heap.size A n c ns) (hs : slot < n) :
    Calls Try.prog 58 #[.agg (pgL A n c en tp), .int .i64 slot, .int .i64 links] w (RetB (nodeB ns slot links) w) := by
  obtain ⟨w1, hw1⟩ : ∃ x, w.alloc (.cells (pgL A n c en tp) 24) = x := ⟨_, rfl⟩
  obtain ⟨C1, b1⟩ := box_plane hw1
  have hlen := hg.len
  have hn := hg.2.1
  have GR := hg.on b1 b1.size
  have HL := Lib.hid hlen
  have c0 : w1.cell? ⟨w.heap.size, 0, none⟩ = some (.slice A n c) := C1.cell 0
  have HB := Lib.hid b1
  obtain ⟨b, o, d, hA, hbb, hd, hr, hda⟩ := GR.node hs
  have LN := node_load hr
  have SN := node_put w1 d
  have K1 := node_at w1 d
  have bX := node_bel w1 d
  obtain ⟨X1, hX1⟩ : ∃ y, (w1.alloc (.cells nd0.cells 42)).setCells w1.heap.size 0 d.cells.toList = y := ⟨_, rfl⟩
  rw [hX1] at SN K1 bX
  rw [nd0_lit] at SN
  have HDN : Hid (nAt ns slot = d) := nAt_of hd
  have HV0 : Hid (nodeB ns slot links = (shapeB d && listsB ns slot links && onceB ns slot)) := by show _ = _; unfold nodeB; rw [HDN.out]
  have HGX := Lib.hid (GR.on bX bX.size)
  have HCX := Lib.hid (C1.below bX C1.lt)
  have HKX := Lib.hid K1
  have HDX := Lib.hid ((hda.below bX).more bX.size)
  have HBX := Lib.hid (b1.trans (bX.mono b1.size))
  have hwf := hda.2.2.2.2.2.2.1
  have hln := hda.2.2.1
  have x3 : X1.cell? ⟨w1.heap.size, 3, none⟩ = some (.int .i64 d.level) := K1.cell 3
  have x4 : X1.cell? ⟨w1.heap.size, 4, none⟩ = some (.slice d.LA d.ln d.lc) := K1.cell 4
  obtain ⟨LA, hLA⟩ : ∃ LA, d.LA = LA := ⟨_, rfl⟩
  have HLS := HDX.out.lstY
  rw [hLA, ← HDN.out] at HLS
  have HDL : Hid ((nAt ns slot).ln = d.ln) := by show _ = _; rw [HDN.out]
  rw [HDL.out] at HLS
  rw [hLA] at x4
  subst hA
  clear hd hr hda hLA K1 bX GR C1 b1 hg hlen hX1
  unfold pgL at hw1 ⊢
  go_enter Try.func58, Try.ntmps58
  go_upto_region 1 with fail
  (try rw [hw1])
  clear hw1
  go_upto_region 2 with (first | refine wpList_loadE LN _ rfl rfl rfl ?_ | refine wpList_storeE SN _ _ rfl rfl rfl rfl ?_)
  clear LN SN c0
  cases s1 : decide (d.level < 0) with
  | true =>
    have HV : Hid (nodeB ns slot links = false) := by show _ = _; rw [HV0.out]; unfold shapeB; rw [s1]; rfl
    go_wp2_with fail
    go_ret
    exact ⟨by rw [HV.out]; rfl, HBX.out⟩
  | false =>
    cases s2 : decide (d.level > 7) with
    | true =>
      have HV : Hid (nodeB ns slot links = false) := by show _ = _; rw [HV0.out]; unfold shapeB; rw [s1, s2]; rfl
      go_wp2_with fail
      go_ret
      exact ⟨by rw [HV.out]; rfl, HBX.out⟩
    | false =>
      have l0 : 0 ≤ d.level := by simpa using s1
      have l7 : d.level ≤ 7 := by simpa using s2
      cases s3 : ((d.ln : Int) != d.level + 1) with
      | true =>
        have HV : Hid (nodeB ns slot links = false) := by show _ = _; rw [HV0.out]; unfold shapeB; rw [s1, s2, s3]; rfl
        go_wp2_with fail
        go_ret
        exact ⟨by rw [HV.out]; rfl, HBX.out⟩
      | false =>
        have HV1 : Hid (nodeB ns slot links = (listsB ns slot links && onceB ns slot)) := by show _ = _; rw [HV0.out]; unfold shapeB; rw [s1, s2, s3]; rfl
        go_wp2_with fail
        clear s1 s2 s3 l0 l7 HV0 hwf
        go_loopw [39] (fun s39 wr => ∃ j : Nat, j ≤ d.ln ∧ s39 = .int .i64 j ∧ Hid (∀ k, k < j → listB ns slot k links = true) ∧ Hid (Below X1.heap.size X1 wr)) (fun s39 _ => d.ln - (intOf s39).toNat)
        case atStart => exact ⟨0, Nat.zero_le _, rfl, Lib.hid (fun k hk => absurd hk (by omega)), Lib.hid (Below.refl _ _)⟩
        case round =>
          obtain ⟨j, hj, rfl, hq, hb⟩ := hrel
          by_cases hlt : j < d.ln
          · obtain ⟨b2, o2, lA, m, cc, xs, hLA, hxs, hm, hmc, hxl, _, hcY, hRY, hwfx⟩ := HLS.out j hlt
            subst hLA
            have HLP := Lib.hid (list_parts (links := links) hxs HL.out)
            have HXL := Lib.hid hxl
            have hbad : listB ns slot j links = false → Hid (nodeB ns slot links = false) := fun h => by
              show _ = _
              rw [HV1.out, lists_bad (by rw [HDN.out]; exact hlt) h]; rfl
            have hst : listB ns slot j links = true → Hid (∀ k, k < j + 1 → listB ns slot k links = true) := by
              intro h k hk
              by_cases e : k = j
              · rw [e]; exact h
              · exact hq.out k (by omega)
            have x0 : wr.cell? ⟨w.heap.size, 0, none⟩ = some (.slice (some ⟨b, o, none⟩) n c) := (HCX.out.below hb.out HCX.out.lt).cell 0
            have xl : wr.cell? ⟨b2, o2 + j, none⟩ = some (.slice lA m cc) := hcY.out wr hb.out
            have HRT := rf_right lA m cc xs slot links j ((n : Int) - 1) wr (hRY.out wr hb.out) hm hmc
            obtain ⟨r1, hr1⟩ : ∃ r, rightB xs slot links j ((n : Int) - 1) = r := ⟨_, rfl⟩
            rw [hr1] at HRT
            replace HRT := Lib.hid HRT
            clear hxs hxl
            cases r1 with
            | false =>
              have HV : Hid (nodeB ns slot links = false) := hbad (by rw [HLP.out, hr1]; rfl)
              clear hr1 hbad hst
              go_wp2_with (go_at_call 74; (with_reducible refine HRT.out.mono ?_); rintro e w5 ⟨rfl, rfl⟩)
              go_ret
              exact ⟨by rw [HV.out]; rfl, HBX.out.trans (hb.out.mono HBX.out.size)⟩
            | true =>
              have HLB : Hid (listB ns slot j links = xs.all (backB ns slot j)) := by show _ = _; rw [HLP.out, hr1]; rfl
              have HBAD := Lib.hid hbad
              have HST := Lib.hid hst
              clear hr1 hbad hst HLP
              go_wp2_with (go_at_call 74; (with_reducible refine HRT.out.mono ?_); rintro e w5 ⟨rfl, rfl⟩)
              obtain ⟨wo, rfl⟩ : ∃ wo : World, wo = wr := ⟨_, rfl⟩
              go_loopw [56] (fun s56 wi => ∃ i : Nat, i ≤ m ∧ s56 = .int .i64 i ∧ Hid (∀ k, k < i → backB ns slot j (ig xs k) = true) ∧ Hid (Below X1.heap.size X1 wi)) (fun s56 _ => m - (intOf s56).toNat)
              case atStart => exact ⟨0, Nat.zero_le _, rfl, Lib.hid (fun k hk => absurd hk (by omega)), hb⟩
              case round =>
                obtain ⟨i, hi, rfl, hqi, hbi⟩ := hrel
                by_cases hli : i < m
                · obtain ⟨b3, o3, hlA, hb3, hx3⟩ := (hRY.out wr hbi.out).atI hli
                  have hxi : i < xs.length := by rw [HXL.out]; exact hli
                  subst hlA
                  obtain ⟨x, hx⟩ : ∃ x, ig xs i = x := ⟨_, rfl⟩
                  have hbx : backB ns slot j x = false → Hid (nodeB ns slot links = false) := fun h => by
                    have h2 := HBAD.out (by rw [HLB.out]; exact back_bad (k := i) hxi (by rw [hx]; exact h))
                    exact h2
                  have hsx : backB ns slot j x = true → Hid (∀ k, k < i + 1 → backB ns slot j (ig xs k) = true) := by
                    intro h k hk
                    by_cases e : k = i
                    · rw [e, hx]; exact h
                    · exact hqi.out k (by omega)
                  rw [hx] at hx3
                  have LPX := plane_load (HCX.out.below hbi.out HCX.out.lt)
                  have HT := rf_there (some ⟨b, o, none⟩) n c ns en tp x wr (HGX.out.on hbi.out hbi.out.size)
                  unfold pgL at LPX HT
                  clear hx hxi xl x0
                  cases ht : thB ns x with
                  | false =>
                    have HV := hbx (by unfold backB; rw [ht]; rfl)
                    rw [ht] at HT
                    replace HT := Lib.hid HT
                    clear ht hbx hsx
                    go_wp2_with (first
                      | ((with_reducible refine wpList_loadE (op := ⟨some 60, _, _, _, _, _⟩) LPX ?leX ?leG ?leO ?leE ?_); (case leO => exact rfl); (case leE => exact rfl); (case leG => exact rfl))
                      | (go_at_call 23; (with_reducible refine HT.out.mono ?_); rintro e w6 ⟨rfl, b6⟩; have HB6 := Lib.hid (hbi.out.trans (b6.mono hbi.out.size)); clear b6))
                    go_ret
                    exact ⟨by rw [HV.out]; rfl, HBX.out.trans (HB6.out.mono HBX.out.size)⟩
                  | true =>
                    obtain ⟨k, rfl, hk⟩ := thB_nat_iff.1 ht
                    have hkn : k < n := by have h1 := (thN_iff.1 hk).2.1; have h2 := HL.out; omega
                    obtain ⟨b4, o4, kLA, kln, klc, hA4, hkl, hkm, hkY, hkS⟩ := HGX.out.lstY hkn
                    injection hA4 with hA4
                    injection hA4 with hA4 hA5
                    subst hA4 hA5
                    have hbk : backB ns slot j k = (decide (j < kln) && hasI (lsAt (nAt ns k) j).xs slot) := by unfold backB; rw [ht, Int.toNat_natCast, hkl]; rfl
                    rw [ht] at HT
                    replace HT := Lib.hid HT
                    clear ht hk hkl
                    by_cases hl : j < kln
                    · obtain ⟨b6, o6, lA6, m6, c6, xs6, hLA6, hxs6, hm6, _, _, _, hcY6, hRY6, _⟩ := hkS.out j hl
                      subst hLA6
                      rw [hxs6, decide_eq_true hl, Bool.true_and] at hbk
                      have d1 : decide (kln ≤ j) = false := decide_eq_false (by omega)
                      have d2 : decide ((j : Int) ≥ (kln : Int)) = false := decide_eq_false (by omega)
                      obtain ⟨r, hr⟩ : ∃ r, hasI xs6 slot = r := ⟨_, rfl⟩
                      have HHS := Lib.hid (fun (Y : World) (hY : Below X1.heap.size X1 Y) => rf_has lA6 m6 c6 xs6 slot Y (hRY6.out Y hY) (by omega))
                      rw [hr] at HHS hbk
                      clear hxs6 hr
                      cases r with
                      | true =>
                        have HQ := hsx hbk
                        clear hbk hbx hsx
                        go_wp2_with (first
                          | ((with_reducible refine wpList_loadE (op := ⟨some 60, _, _, _, _, _⟩) LPX ?leX ?leG ?leO ?leE ?_); (case leO => exact rfl); (case leE => exact rfl); (case leG => exact rfl))
                          | (go_at_call 23; (with_reducible refine HT.out.mono ?_); rintro e w6 ⟨rfl, b6⟩; have HB6 := Lib.hid (hbi.out.trans (b6.mono hbi.out.size)); clear b6; have y0 : w6.cell? ⟨w.heap.size, 0, none⟩ = some (.slice (some ⟨b, o, none⟩) n c) := (HCX.out.below HB6.out HCX.out.lt).cell 0; have y1 := hkY.out w6 HB6.out; have y2 := hcY6.out w6 HB6.out; have HHX := Lib.hid (HHS.out w6 HB6.out))
                          | (go_at_call 75; (with_reducible refine HHX.out.mono ?_); rintro e w7 ⟨rfl, rfl⟩))
                        go_roundw
                        case rel => exact ⟨i + 1, by omega, by go_num, HQ, HB6⟩
                        case measure => simp [intOf]; omega
                      | false =>
                        have HV := hbx hbk
                        clear hbk hbx hsx
                        go_wp2_with (first
                          | ((with_reducible refine wpList_loadE (op := ⟨some 60, _, _, _, _, _⟩) LPX ?leX ?leG ?leO ?leE ?_); (case leO => exact rfl); (case leE => exact rfl); (case leG => exact rfl))
                          | (go_at_call 23; (with_reducible refine HT.out.mono ?_); rintro e w6 ⟨rfl, b6⟩; have HB6 := Lib.hid (hbi.out.trans (b6.mono hbi.out.size)); clear b6; have y0 : w6.cell? ⟨w.heap.size, 0, none⟩ = some (.slice (some ⟨b, o, none⟩) n c) := (HCX.out.below HB6.out HCX.out.lt).cell 0; have y1 := hkY.out w6 HB6.out; have y2 := hcY6.out w6 HB6.out; have HHX := Lib.hid (HHS.out w6 HB6.out))
                          | (go_at_call 75; (with_reducible refine HHX.out.mono ?_); rintro e w7 ⟨rfl, rfl⟩))
                        go_ret
                        exact ⟨by rw [HV.out]; rfl, HBX.out.trans (HB6.out.mono HBX.out.size)⟩
                    · have d1 : decide (kln ≤ j) = true := decide_eq_true (by omega)
                      have d2 : decide ((j : Int) ≥ (kln : Int)) = true := decide_eq_true (by omega)
                      have HV := hbx (by rw [hbk, decide_eq_false hl]; rfl)
                      clear hbk hbx hsx
                      go_wp2_with (first
                        | ((with_reducible refine wpList_loadE (op := ⟨some 60, _, _, _, _, _⟩) LPX ?leX ?leG ?leO ?leE ?_); (case leO => exact rfl); (case leE => exact rfl); (case leG => exact rfl))
                        | (go_at_call 23; (with_reducible refine HT.out.mono ?_); rintro e w6 ⟨rfl, b6⟩; have HB6 := Lib.hid (hbi.out.trans (b6.mono hbi.out.size)); clear b6; have y0 : w6.cell? ⟨w.heap.size, 0, none⟩ = some (.slice (some ⟨b, o, none⟩) n c) := (HCX.out.below HB6.out HCX.out.lt).cell 0; have y1 := hkY.out w6 HB6.out))
                      go_ret
                      exact ⟨by rw [HV.out]; rfl, HBX.out.trans (HB6.out.mono HBX.out.size)⟩
                · obtain rfl : i = m := by omega
                  have HQ := HST.out (by rw [HLB.out]; exact back_all fun k hk => hqi.out k (by rw [← HXL.out]; exact hk))
                  clear x0 xl
                  go_wp2_with fail
                  go_roundw
                  case rel => exact ⟨j + 1, by omega, by go_num, HQ, hbi⟩
                  case measure => simp [intOf]; omega
          · obtain rfl : j = d.ln := by omega
            have HV2 : Hid (nodeB ns slot links = onceB ns slot) := by
              show _ = _
              rw [HV1.out, lists_all (fun k hk => hq.out k (by rw [← HDL.out]; exact hk))]; rfl
            have LPX := plane_load (HCX.out.below hb.out HCX.out.lt)
            have HLV := Lib.hid (rf_live (some ⟨b, o, none⟩) n c ns en tp wr (HGX.out.on hb.out hb.out.size))
            unfold pgL at LPX HLV
            clear hq HLS
            go_wp2_with (first
              | ((with_reducible refine wpList_loadE (op := ⟨some 91, _, _, _, _, _⟩) LPX ?leX ?leG ?leO ?leE ?_); (case leO => exact rfl); (case leE => exact rfl); (case leG => exact rfl))
              | (go_at_call 57; (with_reducible refine HLV.out.mono ?_); rintro e w2 ⟨A2, n2, c2, rfl, ho2, b2⟩; have HO := Lib.hid ho2; have HB2 := Lib.hid (hb.out.trans (b2.mono hb.out.size)); clear ho2 b2))
            have HOR := Lib.hid HO.out.rd
            have HOL := Lib.hid HO.out.len
            have hl2 : n2 ≤ 1048576 := by have h1 := HOL.out; have h2 := lvI_le ns ns.length; have h3 := HL.out; unfold liveI at h1; omega
            have HWF : Hid (d.id = idI ns slot) := by show _ = _; unfold idI; rw [Int.toNat_natCast, HDN.out]
            obtain ⟨sid, hsid⟩ : ∃ sid, d.id = sid := ⟨_, rfl⟩
            have HZ0 : Hid (∀ Y, Below X1.heap.size X1 Y → Y.cell? ⟨w1.heap.size, 0, none⟩ = some (.int .u64 sid)) := fun Y hY => by rw [← hsid]; exact (HKX.out.below hY HKX.out.lt).cell 0
            rw [hsid] at HWF
            clear hsid LPX
            obtain ⟨wo, rfl⟩ : ∃ wo : World, wo = wr := ⟨_, rfl⟩
            go_loopw [94] (fun s94 wr => ∃ i : Nat, i ≤ n2 ∧ s94 = .int .i64 i ∧ Hid (∀ k, k < i → ((ig (liveI ns) k != (slot : Int)) && (idI ns (ig (liveI ns) k) == idI ns slot)) = false) ∧ Hid (Below w2.heap.size w2 wr)) (fun s94 _ => n2 - (intOf s94).toNat)
            case atStart => exact ⟨0, Nat.zero_le _, rfl, Lib.hid (fun k hk => absurd hk (by omega)), Lib.hid (Below.refl _ _)⟩
            case round =>
              obtain ⟨i, hi, rfl, hqi, hbi⟩ := hrel
              have HBI := Lib.hid (HB2.out.trans (hbi.out.mono HB2.out.size))
              by_cases hli : i < n2
              · obtain ⟨b3, o3, hA2, hb3, hx3⟩ := ((HOR.out.below hbi.out).more hbi.out.size).atI hli
                have hxi : i < (liveI ns).length := by rw [HOL.out]; exact hli
                subst hA2
                obtain ⟨k, hx, hkt, hkl⟩ := live_nat (ig_mem hxi)
                have hkn : k < n := by have h2 := HL.out; omega
                obtain ⟨b4, o4, hA4, hb4, hid4⟩ := (HGX.out.on HBI.out HBI.out.size).ids hkn
                injection hA4 with hA4
                injection hA4 with hA4 hA5
                subst hA4 hA5
                obtain ⟨kid, hkid⟩ : ∃ kid, (nAt ns k).id = kid := ⟨_, rfl⟩
                have hbx : ((k != slot) && (kid == sid)) = true → Hid (nodeB ns slot links = false) := fun h => by
                  show _ = _
                  rw [HV2.out]
                  unfold onceB
                  refine all_bad_ig hxi ?_
                  rw [hx]
                  unfold idI at HWF ⊢
                  rw [← HWF.out, Int.toNat_natCast, hkid]
                  rw [cast_bne, h]; rfl
                have hsx : ((k != slot) && (kid == sid)) = false → Hid (∀ k, k < i + 1 → ((ig (liveI ns) k != (slot : Int)) && (idI ns (ig (liveI ns) k) == idI ns slot)) = false) := by
                  intro h k' hk'
                  by_cases e : k' = i
                  · rw [e, hx]
                    unfold idI at HWF ⊢
                    rw [← HWF.out, Int.toNat_natCast, hkid, cast_bne, h]
                  · exact hqi.out k' (by omega)
                rw [hx] at hx3
                rw [hkid] at hid4
                have x0 : wr.cell? ⟨w.heap.size, 0, none⟩ = some (.slice (some ⟨b, o, none⟩) n c) := (HCX.out.below HBI.out HCX.out.lt).cell 0
                have z0 := HZ0.out wr HBI.out
                clear hx hkt hkid hxi
                by_cases hks : k = slot
                · have g1 : (k != slot) = false := by simp [hks]
                  have g2 : ((k : Int) != (slot : Int)) = false := by rw [cast_bne, g1]
                  have HQ := hsx (by rw [g1]; rfl)
                  clear hbx hsx
                  go_wp2_with fail
                  go_quiet (fail)
                  have HBN := Lib.hid (below_drewN hbi.out nq)
                  go_wp2_with fail
                  go_roundw
                  case rel => exact ⟨i + 1, by omega, by go_num, HQ, HBN⟩
                  case measure => simp [intOf]; omega
                · have g1 : (k != slot) = true := by simpa using hks
                  have g2 : ((k : Int) != (slot : Int)) = true := by rw [cast_bne, g1]
                  cases g3 : (kid == sid) with
                  | true =>
                    have HV := hbx (by rw [g1, g3]; rfl)
                    clear hbx hsx
                    go_wp2_with fail
                    go_quiet (fail)
                    have HBN := Lib.hid (below_drewN HBI.out nq)
                    go_wp2_with fail
                    go_ret
                    exact ⟨by rw [HV.out]; rfl, HBX.out.trans (HBN.out.mono HBX.out.size)⟩
                  | false =>
                    have HQ := hsx (by rw [g1, g3]; rfl)
                    clear hbx hsx
                    go_wp2_with fail
                    go_quiet (fail)
                    have HBN := Lib.hid (below_drewN hbi.out nq)
                    go_wp2_with fail
                    go_roundw
                    case rel => exact ⟨i + 1, by omega, by go_num, HQ, HBN⟩
                    case measure => simp [intOf]; omega
              · obtain rfl : i = n2 := by omega
                have HV : Hid (nodeB ns slot links = true) := by
                  show _ = _
                  rw [HV2.out]
                  unfold onceB
                  exact all_all_ig fun k hk => by rw [hqi.out k (by rw [← HOL.out]; exact hk)]; rfl
                go_wp2_with fail
                go_ret
                exact ⟨by rw [HV.out]; rfl, HBX.out.trans (HBI.out.mono HBX.out.size)⟩
end Go.Proofs.Ytbpcddimnbjoeaa
