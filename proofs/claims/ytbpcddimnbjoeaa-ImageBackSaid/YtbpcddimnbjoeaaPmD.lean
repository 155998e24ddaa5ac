/- Planes: whether a plane is right. Printed by genPmD.py. -/
import Derived.Test.YtbpcddimnbjoeaaPmC
namespace Go.Proofs.Ytbpcddimnbjoeaa
open Go.RowKit Go.Maps Go.ChangeMaps Go.MapKept
theorem OwnI.cellY {w : World} {B : Nat} {A : Option Addr} {n c : Nat} {xs : List Int} (h : OwnI w B A n c xs) {i : Nat} (hi : i < n) : ∃ g, A = some ⟨g, 0, none⟩ ∧ B ≤ g ∧ g < w.heap.size ∧ w.cell? ⟨g, i, none⟩ = some (.int .i64 (ig xs i)) := by
  rcases h.row with ⟨rfl, rfl, rfl⟩ | ⟨g, rfl, hB, hn, _, cs, hc, hl, ht⟩
  · omega
  · refine ⟨g, rfl, hB, hc.ib.lt, ?_⟩
    rw [hc.ib.cell (by omega), ← ht]
    congr 2
    exact (ig_take1 hi).symm
/-- What stands by both ways to tell. -/
theorem chk_law (ns : List ND) (links en tp : Int) (n : Nat) (hn : ns.length = n) : chkB ns links en tp = (decide (1 ≤ n) && decide (n ≤ 4097) && ringB ns && ((liveI ns).all (fun x => bodyB ns x.toNat links) && decide ((liveI ns).map (idI ns)).Nodup) && entB ns en tp) := by
  unfold chkB; rw [nodes_law, hn]
theorem take_ids {ns : List ND} {j : Nat} (hj : j < (liveI ns).length) : ((liveI ns).take (j + 1)).map (idI ns) = ((liveI ns).take j).map (idI ns) ++ [idI ns (ig (liveI ns) j)] := by
  rw [take_step hj, List.map_append]; rfl
theorem ids_bad {ns : List ND} {j : Nat} (hj : j < (liveI ns).length) (h : idI ns (ig (liveI ns) j) ∈ ((liveI ns).take j).map (idI ns)) : ¬ ((liveI ns).map (idI ns)).Nodup := by
  intro hd
  have e : (liveI ns).map (idI ns) = ((liveI ns).take (j + 1)).map (idI ns) ++ ((liveI ns).drop (j + 1)).map (idI ns) := by rw [← List.map_append, List.take_append_drop]
  rw [e, take_ids hj, List.nodup_append, List.nodup_append] at hd
  exact hd.1.2.2 _ h _ (by simp) rfl
theorem ids_step {ns : List ND} {j : Nat} (hj : j < (liveI ns).length) (hd : (((liveI ns).take j).map (idI ns)).Nodup) (h : idI ns (ig (liveI ns) j) ∉ ((liveI ns).take j).map (idI ns)) : (((liveI ns).take (j + 1)).map (idI ns)).Nodup := by
  rw [take_ids hj, List.nodup_append]
  refine ⟨hd, by simp, ?_⟩
  rintro a ha b hb rfl
  simp at hb
  subst hb
  exact h ha
set_option maxRecDepth 100000 in
set_option maxHeartbeats 4000000 in
theorem pl_check (A : Option Addr) (n c : Nat) (ns : List ND) (en tp links : Int) (w : World) (hg : PgAt w w.heap.size A n c ns) :
    Calls Try.prog 13 #[.agg (pgL A n c en tp), .int .i64 links] w (RetE (chkW ns links en tp) w) := by
  obtain ⟨w1, hw1⟩ : ∃ x, w.alloc (.cells (pgL A n c en tp) 24) = x := ⟨_, rfl⟩
  obtain ⟨C1, b1⟩ := box_plane hw1
  have hn := hg.2.1
  have HL := Lib.hid hg.len
  have HG := Lib.hid (hg.on b1 b1.size)
  have HC := Lib.hid C1
  have c0 : w1.cell? ⟨w.heap.size, 0, none⟩ = some (.slice A n c) := C1.cell 0
  have HB := Lib.hid b1
  have HV0 := Lib.hid (chk_law ns links en tp n HL.out)
  have LP := plane_load C1
  have HR := pl_ringB A n c ns en tp w1 (hg.on b1 b1.size)
  clear hg C1 b1
  unfold pgL at hw1 LP HR ⊢
  go_enter Try.func13, Try.ntmps13
  go_upto_region 1 with fail
  (try rw [hw1])
  clear hw1
  by_cases h1 : n < 1
  · have HV : Hid (chkW ns links en tp = 7) := chkW_no (by rw [HV0.out, decide_eq_false (show ¬ 1 ≤ n by omega)]; rfl)
    clear LP HR
    go_wp2_with fail
    go_ret
    exact ⟨by rw [HV.out]; rfl, HB.out⟩
  by_cases h2 : 4097 < n
  · have HV : Hid (chkW ns links en tp = 7) := chkW_no (by rw [HV0.out, decide_eq_false (show ¬ n ≤ 4097 by omega), Bool.and_false]; rfl)
    clear LP HR
    go_wp2_with fail
    go_ret
    exact ⟨by rw [HV.out]; rfl, HB.out⟩
  have e1 : decide ((n : Int) < 1) = false := decide_eq_false (by omega)
  have e2 : decide ((4097 : Int) < (n : Int)) = false := decide_eq_false (by omega)
  obtain ⟨rg, hrg⟩ : ∃ rg, ringB ns = rg := ⟨_, rfl⟩
  rw [hrg] at HR
  have HV1 : Hid (chkB ns links en tp = (rg && ((liveI ns).all (fun x => bodyB ns x.toNat links) && decide ((liveI ns).map (idI ns)).Nodup) && entB ns en tp)) := by
    show _ = _
    rw [HV0.out, decide_eq_true (show 1 ≤ n by omega), decide_eq_true (show n ≤ 4097 by omega), hrg]; rfl
  replace HR := Lib.hid HR
  clear hrg
  cases rg with
  | false =>
    have HV : Hid (chkW ns links en tp = 7) := chkW_no (by rw [HV1.out]; rfl)
    go_wp2_with (first
      | ((with_reducible refine wpList_loadG (op := ⟨some 22, _, _, _, _, _⟩) LP ?lgX ?lgW ?lgO ?lgE ?_); (case lgO => exact rfl); (case lgE => exact rfl); (case lgW => kernel_rfl))
      | (go_at_call 35; (with_reducible refine HR.out.mono ?_); rintro e w2 ⟨rfl, b2⟩; have HB2 := Lib.hid (HB.out.trans (b2.mono HB.out.size)); clear b2))
    go_ret
    exact ⟨by rw [HV.out]; rfl, HB2.out⟩
  | true =>
    go_upto_region 3 with (first
      | ((with_reducible refine wpList_loadG (op := ⟨some 22, _, _, _, _, _⟩) LP ?lgX ?lgW ?lgO ?lgE ?_); (case lgO => exact rfl); (case lgE => exact rfl); (case lgW => kernel_rfl))
      | (go_at_call 35; (with_reducible refine HR.out.mono ?_); rintro e w2 ⟨rfl, b2⟩; have HB2 := Lib.hid b2; clear b2))
    have hmm := fun w => run_makeMap (P := Try.prog) 81 w
    obtain ⟨mb, hmb⟩ : ∃ mb, w2.heap.size = mb := ⟨_, rfl⟩
    obtain ⟨wm, hwm⟩ : ∃ x, w2.alloc (.map #[] 0) = x := ⟨_, rfl⟩
    have m1 : MpAt wm 36 mb 0 (.map []) := by rw [← hwm, ← hmb]; exact World.ownsMap_made w2 Try.prog 36 (plainElem (H := Unit) Try.prog 3)
    have bm1 : Below w2.heap.size w2 wm := by rw [← hwm]; exact bel_box _ _
    have HMB : Hid (w1.heap.size ≤ mb) := by show _ ≤ _; rw [← hmb]; exact HB2.out.size
    have HMW : Hid (mb < wm.heap.size) := m1.lt
    have HM1 := Lib.hid m1
    have HBM := Lib.hid (HB2.out.trans (bm1.mono HB2.out.size))
    have LP2 := plane_load (HC.out.below HBM.out HC.out.lt)
    have HLV := pl_live A n c ns en tp wm (HG.out.on HBM.out HBM.out.size)
    clear e1 e2 m1 bm1
    unfold pgL at LP2 HLV
    replace HLV := Lib.hid HLV
    clear LP HR c0
    go_upto_region 4 with fail
    (try rw [hwm, hmb])
    (try rw [hmb])
    clear hwm hmb hmm
    go_wp2_with (first
      | ((with_reducible refine wpList_loadE (op := ⟨some 27, _, _, _, _, _⟩) LP2 ?leX ?leG ?leO ?leE ?_); (case leO => exact rfl); (case leE => exact rfl); (case leG => exact rfl))
      | (go_at_call 36; (with_reducible refine HLV.out.mono ?_); rintro e w3 ⟨A2, n2, c2, rfl, ho2, b3⟩; have HO := Lib.hid ho2; have HOL := Lib.hid ho2.len; have HB3 := Lib.hid (HBM.out.trans (b3.mono HBM.out.size)); have HM3 := Lib.hid (HM1.out.below b3); clear ho2 b3))
    have hl2 : n2 ≤ 1048576 := by have h1 := HOL.out; have h2 := lvI_le ns ns.length; have h3 := HL.out; unfold liveI at h1; omega
    clear LP2 HLV HM1
    go_loopw [30] (fun s30 wr => ∃ j : Nat, j ≤ n2 ∧ s30 = .int .i64 j ∧ Hid (∀ k, k < j → bodyB ns (ig (liveI ns) k).toNat links = true) ∧ Hid ((((liveI ns).take j).map (idI ns)).Nodup) ∧ Hid (Tch (fun k => k = mb) w3 wr ∧ ∃ D, MpAt wr 36 mb j D ∧ CmD .u64 D (((liveI ns).take j).map (idI ns)))) (fun s30 _ => n2 - (intOf s30).toNat)
    case atStart => exact ⟨0, Nat.zero_le _, rfl, Lib.hid (fun k hk => absurd hk (by omega)), Lib.hid List.nodup_nil, Lib.hid ⟨Tch.refl _ _, _, HM3.out, CmD.nil_ _⟩⟩
    case round =>
      obtain ⟨j, hj, rfl, hqi, hnd, hmd⟩ := hrel
      obtain ⟨hT, D, hM, hD⟩ := hmd.out
      have hwb : Below mb w3 wr := hT.below (by have h1 := HM3.out.lt; omega) (by rintro k rfl; exact Nat.le_refl _)
      have hb := Lib.hid (HB3.out.trans (hwb.mono HMB.out))
      have HT := Lib.hid hT
      have HM := Lib.hid hM
      have HD := Lib.hid hD
      have HGW := Lib.hid (HG.out.on hb.out hb.out.size)
      have HCW := Lib.hid (HC.out.below hb.out HC.out.lt)
      clear hT hM hD hwb hmd
      by_cases hlj : j < n2
      · obtain ⟨b3, hA2, hb3, hb4, hx3⟩ := HO.out.cellY hlj
        have hx4 : wr.cell? ⟨b3, j, none⟩ = some (.int .i64 (ig (liveI ns) j)) := (HT.out.cell (p := ⟨b3, j, none⟩) hb4 (by have h1 := HMW.out; show ¬ b3 = mb; omega)).trans hx3
        have hxj : j < (liveI ns).length := by rw [HOL.out]; exact hlj
        subst hA2
        obtain ⟨k, hx, hkt, hkl⟩ := live_nat (ig_mem hxj)
        have hkn : k < n := by have h2 := HL.out; omega
        have hidx : idI ns (ig (liveI ns) j) = (nAt ns k).id := by rw [hx]; unfold idI; rw [Int.toNat_natCast]
        have hbx : bodyB ns k links = false → Hid (chkW ns links en tp = 7) := fun h => chkW_no (by
          rw [HV1.out, all_bad_ig hxj (by rw [hx, Int.toNat_natCast]; exact h)]; rfl)
        have hdx : (nAt ns k).id ∈ ((liveI ns).take j).map (idI ns) → Hid (chkW ns links en tp = 7) := fun h => chkW_no (by
          rw [HV1.out, decide_eq_false (ids_bad hxj (by rw [hidx]; exact h)), Bool.and_false]; rfl)
        have hsx : bodyB ns k links = true → Hid (∀ k, k < j + 1 → bodyB ns (ig (liveI ns) k).toNat links = true) := by
          intro h k' hk'
          by_cases e : k' = j
          · rw [e, hx, Int.toNat_natCast]; exact h
          · exact hqi.out k' (by omega)
        have hdy : (nAt ns k).id ∉ ((liveI ns).take j).map (idI ns) → Hid ((((liveI ns).take (j + 1)).map (idI ns)).Nodup) := fun h => ids_step hxj hnd.out (by rw [hidx]; exact h)
        have hsn := HD.out.snoc (idI ns (ig (liveI ns) j))
        rw [← take_ids hxj, hidx] at hsn
        have HSN := Lib.hid hsn
        rw [hx] at hx4
        obtain ⟨b, o, d, hA, hbb, hd, hr, hda⟩ := HGW.out.node hkn
        have LN := node_load hr
        have SN := node_put wr d
        have K1 := node_at wr d
        have bX := node_bel wr d
        obtain ⟨X1, hX1⟩ : ∃ y, (wr.alloc (.cells nd0.cells 42)).setCells wr.heap.size 0 d.cells.toList = y := ⟨_, rfl⟩
        rw [hX1] at SN K1 bX
        rw [nd0_lit] at SN
        have HDN : Hid (nAt ns k = d) := nAt_of hd
        rw [HDN.out] at hdx hdy hsn
        have HBX := Lib.hid bX
        have HKX := Lib.hid K1
        have HMX := Lib.hid (HM.out.below bX)
        have hmw : mb < wr.heap.size := HM.out.lt
        have hwf := hda.2.2.2.2.2.2.1
        have hwi := hda.2.2.2.2.2.1
        have hln := hda.2.2.1
        subst hA
        have HBD : Hid (bodyB ns k links = (shapeB d && listsB ns k links)) := by show _ = _; unfold bodyB; rw [HDN.out]
        obtain ⟨did, hdid⟩ : ∃ did, d.id = did := ⟨_, rfl⟩
        rw [hdid] at hdx hdy hsn hwi
        rw [HDN.out, hdid] at HSN
        obtain ⟨cn, hcn⟩ : ∃ cn : Nat, (((liveI ns).take j).map (idI ns)).count did = cn := ⟨_, rfl⟩
        have hcl : cn ≤ 1048576 := by have h1 := count_le (((liveI ns).take j).map (idI ns)) did; rw [List.length_map, List.length_take] at h1; omega
        rw [hcn] at hsn HSN
        have HCN := Lib.hid hcn
        have hkey := keyOf_int_mk (P := Try.prog) Try.underlying36 hwi
        have hv := plainElem_int (H := Unit) (P := Try.prog) Try.underlying3 (wf_cnt (n := cn) (by omega))
        have hmx : j < maxLen := by unfold maxLen; omega
        have hbz : cn = 0 ↔ did ∉ ((liveI ns).take j).map (idI ns) := by rw [← hcn]; exact List.count_eq_zero
        have HBZ := Lib.hid hbz
        have HDX := Lib.hid hdx
        have HDY := Lib.hid hdy
        have HBXX := Lib.hid hbx
        have HSX := Lib.hid hsx
        have xi : X1.cell? ⟨wr.heap.size, 0, none⟩ = some (.int .u64 did) := by rw [← hdid]; exact K1.cell 0
        have HK0 : Hid (∀ Y, Tch (fun k => k = mb) X1 Y → Y.cell? ⟨wr.heap.size, 0, none⟩ = some (.int .u64 did) ∧ Y.cell? ⟨wr.heap.size, 3, none⟩ = some (.int .i64 d.level) ∧ Y.cell? ⟨wr.heap.size, 4, none⟩ = some (.slice d.LA d.ln d.lc)) := fun Y hY => by
          have h1 := HKX.out.tch hY (by omega)
          exact ⟨by rw [← hdid]; exact h1.cell 0, h1.cell 3, h1.cell 4⟩
        have x0 : wr.cell? ⟨w.heap.size, 0, none⟩ = some (.slice (some ⟨b, o, none⟩) n c) := HCW.out.cell 0
        have HKEY := Lib.hid hkey
        have HVV := Lib.hid hv
        have HMX2 := Lib.hid hmx
        have HWF := Lib.hid hwf
        have HCT2 : Hid ((((liveI ns).take (j + 1)).map (idI ns)).count did = cn + 1) := by
          show _ = _
          rw [take_ids hxj, List.count_append, hcn, hidx, HDN.out, hdid]; simp
        clear hx hkt hkl hxj hidx hbx hdx hsx hdy hsn hd hr hda K1 bX hX1 hcn hbz hwi hx3 hb4 hdid hkey hv hmx hwf
        go_upto_region 8 with (first | refine wpList_loadE LN _ rfl rfl rfl ?_ | refine wpList_storeE SN _ _ rfl rfl rfl rfl ?_)
        clear LN SN
        go_upto_region 9 with (first
          | (at_lookup; refine wpList_lookup_own_int _ rfl (.tmp 39) (.tmp 42) 81 rfl 36 3 .i64 lawU Try.underlying81 Try.underlying3 (zeroI _) mb j D rfl HMX.out (.int .u64 did) (.int .u64 did) rfl HKEY.out ?_; intro cc hat hwc; obtain rfl : cc = (cn : Int) := (cnt_eq HD.out hat).trans (by rw [HCN.out]); clear hat hwc)
          | (at_mapUpdate; (refine wpList_mapUpdate_own _ rfl (.tmp 39) (.tmp 42) (.tmp 44) 81 rfl 36 3 lawU Try.underlying81 (plainElem Try.prog 3) mb j D rfl HMX.out HMX2.out (.int .u64 did) (.int .i64 ((cn : Int) + 1)) (.int .u64 did) rfl rfl HKEY.out (.lit (.int .i64 ((cn : Int) + 1))) [] HVV.out ?_; intro w5 hM5 hg5)))
        have hT5 : Tch (fun k => k = mb) X1 w5 := ⟨hg5.os, hg5.tape, hg5.output, hg5.size, fun k hk hn => hg5.block k hk (by intro e; injection e with e; exact hn e)⟩
        have HM5 := Lib.hid hM5
        obtain ⟨y0, y3, y4⟩ := HK0.out w5 hT5
        have HT5 : Hid (Tch (fun k => k = mb) w3 w5) := (HT.out.trans (Tch.of_below HBX.out) (fun _ h => .inl h)).trans hT5 (fun _ h => .inl h)
        have hb5 : Below w1.heap.size w1 w5 := HB3.out.trans ((HT5.out.below (B := mb) (by have h1 := HM3.out.lt; omega) (by rintro k rfl; exact Nat.le_refl _)).mono HMB.out)
        have HB5 := Lib.hid hb5
        clear hT5 hM5 hg5 hb5 HMX HK0 xi HVV HM HT
        obtain ⟨lev, hlev⟩ : ∃ lev, d.level = lev := ⟨_, rfl⟩
        have HSH : Hid (shapeB d = (!decide (lev < 0) && !decide (lev > 7) && !((d.ln : Int) != lev + 1))) := by show _ = _; unfold shapeB; rw [hlev]
        rw [hlev] at y3 HWF
        clear hlev
        cases s1 : decide (lev < 0) with
        | true =>
          have HV := HBXX.out (by rw [HBD.out, HSH.out, s1]; rfl)
          go_wp2_with fail
          go_ret
          exact ⟨by rw [HV.out]; rfl, HB.out.trans (HB5.out.mono HB.out.size)⟩
        | false =>
        cases s2 : decide (lev > 7) with
        | true =>
          have HV := HBXX.out (by rw [HBD.out, HSH.out, s1, s2]; rfl)
          go_wp2_with fail
          go_ret
          exact ⟨by rw [HV.out]; rfl, HB.out.trans (HB5.out.mono HB.out.size)⟩
        | false =>
        have l0 : 0 ≤ lev := by simpa using s1
        have l7 : lev ≤ 7 := by simpa using s2
        cases s3 : ((d.ln : Int) != lev + 1) with
        | true =>
          have HV := HBXX.out (by rw [HBD.out, HSH.out, s1, s2, s3]; rfl)
          go_wp2_with fail
          go_ret
          exact ⟨by rw [HV.out]; rfl, HB.out.trans (HB5.out.mono HB.out.size)⟩
        | false =>
        have HSH2 : Hid (shapeB d = true) := by show _ = _; rw [HSH.out, s1, s2, s3]; rfl
        by_cases hc0 : cn = 0
        · subst hc0
          have HND := HDY.out (HBZ.out.1 rfl)
          go_wp2_with (at_lookup; refine wpList_unguard rfl ?_; refine wpList_lookup_own_int _ rfl (.tmp 63) (.tmp 66) 81 rfl 36 3 .i64 lawU Try.underlying81 Try.underlying3 (zeroI _) mb (j + 1) _ rfl HM5.out (.int .u64 did) (.int .u64 did) rfl HKEY.out ?_; intro cc hat hwc; obtain rfl : cc = 1 := (cnt_eq HSN.out hat).trans (by rw [HCT2.out]; rfl); clear hat hwc)
          clear s1 s2 s3 l0 l7 HSH
          have HGX := Lib.hid (HG.out.on HB5.out HB5.out.size)
          have HCX := Lib.hid (HC.out.below HB5.out HC.out.lt)
          clear x0 y0 y3 y4 hx4
          obtain ⟨wo, rfl⟩ : ∃ wo : World, wo = wr := ⟨_, rfl⟩
          go_loopw [73] (fun s73 wr => ∃ l : Nat, l ≤ d.ln ∧ s73 = .int .i64 l ∧ Hid (∀ k', k' < l → listB ns k k' links = true) ∧ Hid (Below w5.heap.size w5 wr)) (fun s73 _ => d.ln - (intOf s73).toNat)
          case atStart => exact ⟨0, Nat.zero_le _, rfl, Lib.hid (fun k hk => absurd hk (by omega)), Lib.hid (Below.refl _ _)⟩
          case round =>
            obtain ⟨l, hl, rfl, hql, hbl⟩ := hrel
            by_cases hll : l < d.ln
            · have LP := plane_load (HCX.out.below hbl.out HCX.out.lt)
              have HLT := pl_list (some ⟨b, o, none⟩) n c ns en tp k l links wr (HGX.out.on hbl.out hbl.out.size) hkn (by rw [HDN.out]; exact hll)
              obtain ⟨r, hr⟩ : ∃ r, listB ns k l links = r := ⟨_, rfl⟩
              rw [hr] at HLT
              unfold pgL at LP HLT
              replace HLT := Lib.hid HLT
              cases r with
              | false =>
                have HV := HBXX.out (by rw [HBD.out, lists_bad (by rw [HDN.out]; exact hll) hr, Bool.and_false])
                clear hr
                go_wp2_with (first
                  | ((with_reducible refine wpList_loadE (op := ⟨some 76, _, _, _, _, _⟩) LP ?leX ?leG ?leO ?leE ?_); (case leO => exact rfl); (case leE => exact rfl); (case leG => exact rfl))
                  | (go_at_call 37; (with_reducible refine HLT.out.mono ?_); rintro e w7 ⟨rfl, b7⟩; have HB7 := Lib.hid (HB5.out.trans ((hbl.out.trans (b7.mono hbl.out.size)).mono HB5.out.size)); clear b7))
                go_ret
                exact ⟨by rw [HV.out]; rfl, HB.out.trans (HB7.out.mono HB.out.size)⟩
              | true =>
                have HQ : Hid (∀ k', k' < l + 1 → listB ns k k' links = true) := by
                  intro k' hk'
                  by_cases e : k' = l
                  · rw [e]; exact hr
                  · exact hql.out k' (by omega)
                clear hr
                go_wp2_with (first
                  | ((with_reducible refine wpList_loadE (op := ⟨some 76, _, _, _, _, _⟩) LP ?leX ?leG ?leO ?leE ?_); (case leO => exact rfl); (case leE => exact rfl); (case leG => exact rfl))
                  | (go_at_call 37; (with_reducible refine HLT.out.mono ?_); rintro e w7 ⟨rfl, b7⟩; have HB7 := Lib.hid (hbl.out.trans (b7.mono hbl.out.size)); clear b7))
                go_roundw
                case rel => exact ⟨l + 1, by omega, by go_num, HQ, HB7⟩
                case measure => simp [intOf]; omega
            · obtain rfl : l = d.ln := by omega
              have HQ := HSX.out (by rw [HBD.out, HSH2.out, lists_all fun k' hk' => hql.out k' (by rw [HDN.out] at hk'; exact hk')]; rfl)
              have HTN : Hid (Tch (fun k => k = mb) w3 wr ∧ ∃ D, MpAt wr 36 mb (j + 1) D ∧ CmD .u64 D (((liveI ns).take (j + 1)).map (idI ns))) := ⟨HT5.out.trans (Tch.of_below hbl.out) (fun _ h => .inl h), _, MpAt.below HM5.out hbl.out, HSN.out⟩
              go_wp2_with fail
              go_roundw
              case rel => exact ⟨j + 1, by omega, by go_num, HQ, HND, HTN⟩
              case measure => simp [intOf]; omega
        · have HV := HDX.out (Classical.byContradiction fun h => hc0 (HBZ.out.2 h))
          have h1 : (1 : Int) < (cn : Int) + 1 := by omega
          go_wp2_with (at_lookup; refine wpList_unguard rfl ?_; refine wpList_lookup_own_int _ rfl (.tmp 63) (.tmp 66) 81 rfl 36 3 .i64 lawU Try.underlying81 Try.underlying3 (zeroI _) mb (j + 1) _ rfl HM5.out (.int .u64 did) (.int .u64 did) rfl HKEY.out ?_; intro cc hat hwc; obtain rfl : cc = (cn : Int) + 1 := (cnt_eq HSN.out hat).trans (by rw [HCT2.out]; rfl); clear hat hwc)
          go_ret
          exact ⟨by rw [HV.out]; rfl, HB.out.trans (HB5.out.mono HB.out.size)⟩
      · obtain rfl : j = n2 := by omega
        have HCE : Hid (chkB ns links en tp = entB ns en tp) := by
          show _ = _
          have hnd2 := hnd.out
          rw [List.take_of_length_le (by rw [HOL.out]; exact Nat.le_refl _)] at hnd2
          rw [HV1.out, all_all_ig fun k hk => hqi.out k (by rw [← HOL.out]; exact hk), decide_eq_true hnd2]; rfl
        clear hqi hnd
        have x1 : wr.cell? ⟨w.heap.size, 1, none⟩ = some (.int .i64 en) := HCW.out.cell 1
        have x2 : wr.cell? ⟨w.heap.size, 2, none⟩ = some (.int .i64 tp) := HCW.out.cell 2
        cases e1 : (en == 0) with
        | true =>
          cases e2 : (tp == 0) with
          | true =>
            have HV : Hid (chkW ns links en tp = 0) := by show _ = _; exact chkW_yes (by rw [HCE.out]; unfold entB; rw [e1, e2]; rfl)
            go_wp2_with fail
            refine wp_region_held_drew (S := fun w' => Below wr.heap.size wr w') (by kernel_rfl) (below_drewN (Below.refl _ wr) 1) (fun hH => ?_)
            refine wpAnyH_take (i := 0) (v := .bool true) rfl (by kernel_rfl) (by kernel_rfl) (by kernel_rfl) (fun _ _ _ h => h) (.inl ⟨by rfl, fun _ _ => by kernel_rfl⟩) hH ?_
            (try simp only [List.getElem_toArray, List.getElem_cons_zero, Act.put, List.setIfInBounds_toArray, List.set_cons_zero, List.set_cons_succ])
            refine wpAnyH_take (i := 1) (v := .bool false) rfl (by kernel_rfl) (by kernel_rfl) (by kernel_rfl) (fun _ _ _ h => h) (.inl ⟨by rfl, fun _ _ => by kernel_rfl⟩) hH ?_
            (try simp only [List.getElem_toArray, List.getElem_cons_zero, List.getElem_cons_succ, Act.put, List.setIfInBounds_toArray, List.set_cons_zero, List.set_cons_succ])
            refine wpAnyH_take (i := 2) (v := .bool false) rfl (by kernel_rfl) (by kernel_rfl) (by kernel_rfl) (fun _ _ _ h => h) (.inl ⟨by rfl, fun _ _ => by kernel_rfl⟩) hH ?_
            (try simp only [List.getElem_toArray, List.getElem_cons_zero, List.getElem_cons_succ, Act.put, List.setIfInBounds_toArray, List.set_cons_zero, List.set_cons_succ])
            refine wpAnyH_take (i := 3) (v := undef) rfl (by kernel_rfl) (by kernel_rfl) (by kernel_rfl) (fun _ _ _ h => h) (.inr ⟨by rfl, rfl⟩) hH ?_
            (try simp only [List.getElem_toArray, List.getElem_cons_zero, List.getElem_cons_succ, Act.put, List.setIfInBounds_toArray, List.set_cons_zero, List.set_cons_succ])
            refine wpAnyH_take (i := 4) (v := undef) rfl (by kernel_rfl) (by kernel_rfl) (by kernel_rfl) (fun _ _ _ h => h) (.inr ⟨by rfl, rfl⟩) hH ?_
            (try simp only [List.getElem_toArray, List.getElem_cons_zero, List.getElem_cons_succ, Act.put, List.setIfInBounds_toArray, List.set_cons_zero, List.set_cons_succ])
            refine wpAnyH_take (i := 5) (v := undef) rfl (by kernel_rfl) (by kernel_rfl) (by kernel_rfl) (fun _ _ _ h => h) (.inr ⟨by rfl, rfl⟩) hH ?_
            (try simp only [List.getElem_toArray, List.getElem_cons_zero, List.getElem_cons_succ, Act.put, List.setIfInBounds_toArray, List.set_cons_zero, List.set_cons_succ])
            refine wpAnyH_take (i := 6) (v := undef) rfl (by kernel_rfl) (by kernel_rfl) (by kernel_rfl) (fun _ _ _ h => h) (.inr ⟨by rfl, rfl⟩) hH ?_
            (try simp only [List.getElem_toArray, List.getElem_cons_zero, List.getElem_cons_succ, Act.put, List.setIfInBounds_toArray, List.set_cons_zero, List.set_cons_succ])
            refine wpAnyH_take (i := 7) (v := undef) rfl (by kernel_rfl) (by kernel_rfl) (by kernel_rfl) (fun _ _ _ h => h) (.inr ⟨by rfl, rfl⟩) hH ?_
            (try simp only [List.getElem_toArray, List.getElem_cons_zero, List.getElem_cons_succ, Act.put, List.setIfInBounds_toArray, List.set_cons_zero, List.set_cons_succ])
            refine wpAnyH_take (i := 8) (v := undef) rfl (by kernel_rfl) (by kernel_rfl) (by kernel_rfl) (fun _ _ _ h => h) (.inr ⟨by rfl, rfl⟩) hH ?_
            (try simp only [List.getElem_toArray, List.getElem_cons_zero, List.getElem_cons_succ, Act.put, List.setIfInBounds_toArray, List.set_cons_zero, List.set_cons_succ])
            refine wpAnyH_take (i := 9) (v := undef) rfl (by kernel_rfl) (by kernel_rfl) (by kernel_rfl) (fun _ _ _ h => h) (.inr ⟨by rfl, rfl⟩) hH ?_
            (try simp only [List.getElem_toArray, List.getElem_cons_zero, List.getElem_cons_succ, Act.put, List.setIfInBounds_toArray, List.set_cons_zero, List.set_cons_succ])
            refine wpAnyH_take (i := 10) (v := undef) rfl (by kernel_rfl) (by kernel_rfl) (by kernel_rfl) (fun _ _ _ h => h) (.inr ⟨by rfl, rfl⟩) hH ?_
            (try simp only [List.getElem_toArray, List.getElem_cons_zero, List.getElem_cons_succ, Act.put, List.setIfInBounds_toArray, List.set_cons_zero, List.set_cons_succ])
            refine wpAnyH_take (i := 11) (v := undef) rfl (by kernel_rfl) (by kernel_rfl) (by kernel_rfl) (fun _ _ _ h => h) (.inr ⟨by rfl, rfl⟩) hH ?_
            (try simp only [List.getElem_toArray, List.getElem_cons_zero, List.getElem_cons_succ, Act.put, List.setIfInBounds_toArray, List.set_cons_zero, List.set_cons_succ])
            refine wpAnyH_take (i := 12) (v := undef) rfl (by kernel_rfl) (by kernel_rfl) (by kernel_rfl) (fun _ _ _ h => h) (.inr ⟨by rfl, rfl⟩) hH ?_
            (try simp only [List.getElem_toArray, List.getElem_cons_zero, List.getElem_cons_succ, Act.put, List.setIfInBounds_toArray, List.set_cons_zero, List.set_cons_succ])
            refine wpAnyH_take (i := 13) (v := undef) rfl (by kernel_rfl) (by kernel_rfl) (by kernel_rfl) (fun _ _ _ h => h) (.inr ⟨by rfl, rfl⟩) hH ?_
            (try simp only [List.getElem_toArray, List.getElem_cons_zero, List.getElem_cons_succ, Act.put, List.setIfInBounds_toArray, List.set_cons_zero, List.set_cons_succ])
            refine wpAnyH_take (i := 14) (v := undef) rfl (by kernel_rfl) (by kernel_rfl) (by kernel_rfl) (fun _ _ _ h => h) (.inr ⟨by rfl, rfl⟩) hH ?_
            (try simp only [List.getElem_toArray, List.getElem_cons_zero, List.getElem_cons_succ, Act.put, List.setIfInBounds_toArray, List.set_cons_zero, List.set_cons_succ])
            refine wpAnyH_take (i := 15) (v := undef) rfl (by kernel_rfl) (by kernel_rfl) (by kernel_rfl) (fun _ _ _ h => h) (.inr ⟨by rfl, rfl⟩) hH ?_
            (try simp only [List.getElem_toArray, List.getElem_cons_zero, List.getElem_cons_succ, Act.put, List.setIfInBounds_toArray, List.set_cons_zero, List.set_cons_succ])
            refine wpAnyH_take (i := 16) (v := undef) rfl (by kernel_rfl) (by kernel_rfl) (by kernel_rfl) (fun _ _ _ h => h) (.inr ⟨by rfl, rfl⟩) hH ?_
            (try simp only [List.getElem_toArray, List.getElem_cons_zero, List.getElem_cons_succ, Act.put, List.setIfInBounds_toArray, List.set_cons_zero, List.set_cons_succ])
            refine wpAnyH_take (i := 17) (v := undef) rfl (by kernel_rfl) (by kernel_rfl) (by kernel_rfl) (fun _ _ _ h => h) (.inr ⟨by rfl, rfl⟩) hH ?_
            (try simp only [List.getElem_toArray, List.getElem_cons_zero, List.getElem_cons_succ, Act.put, List.setIfInBounds_toArray, List.set_cons_zero, List.set_cons_succ])
            refine wpAnyH_take (i := 18) (v := undef) rfl (by kernel_rfl) (by kernel_rfl) (by kernel_rfl) (fun _ _ _ h => h) (.inr ⟨by rfl, rfl⟩) hH ?_
            (try simp only [List.getElem_toArray, List.getElem_cons_zero, List.getElem_cons_succ, Act.put, List.setIfInBounds_toArray, List.set_cons_zero, List.set_cons_succ])
            refine wpAnyH_take (i := 19) (v := undef) rfl (by kernel_rfl) (by kernel_rfl) (by kernel_rfl) (fun _ _ _ h => h) (.inr ⟨by rfl, rfl⟩) hH ?_
            (try simp only [List.getElem_toArray, List.getElem_cons_zero, List.getElem_cons_succ, Act.put, List.setIfInBounds_toArray, List.set_cons_zero, List.set_cons_succ])
            refine wpAnyH_take (i := 20) (v := undef) rfl (by kernel_rfl) (by kernel_rfl) (by kernel_rfl) (fun _ _ _ h => h) (.inr ⟨by rfl, rfl⟩) hH ?_
            (try simp only [List.getElem_toArray, List.getElem_cons_zero, List.getElem_cons_succ, Act.put, List.setIfInBounds_toArray, List.set_cons_zero, List.set_cons_succ])
            refine wpAnyH_take (i := 21) (v := undef) rfl (by kernel_rfl) (by kernel_rfl) (by kernel_rfl) (fun _ _ _ h => h) (.inr ⟨by rfl, rfl⟩) hH ?_
            (try simp only [List.getElem_toArray, List.getElem_cons_zero, List.getElem_cons_succ, Act.put, List.setIfInBounds_toArray, List.set_cons_zero, List.set_cons_succ])
            refine wpAnyH_take (i := 22) (v := undef) rfl (by kernel_rfl) (by kernel_rfl) (by kernel_rfl) (fun _ _ _ h => h) (.inr ⟨by rfl, rfl⟩) hH ?_
            (try simp only [List.getElem_toArray, List.getElem_cons_zero, List.getElem_cons_succ, Act.put, List.setIfInBounds_toArray, List.set_cons_zero, List.set_cons_succ])
            refine wpAnyH_take (i := 23) (v := undef) rfl (by kernel_rfl) (by kernel_rfl) (by kernel_rfl) (fun _ _ _ h => h) (.inr ⟨by rfl, rfl⟩) hH ?_
            (try simp only [List.getElem_toArray, List.getElem_cons_zero, List.getElem_cons_succ, Act.put, List.setIfInBounds_toArray, List.set_cons_zero, List.set_cons_succ])
            refine wpAnyH_take (i := 24) (v := undef) rfl (by kernel_rfl) (by kernel_rfl) (by kernel_rfl) (fun _ _ _ h => h) (.inr ⟨by rfl, rfl⟩) hH ?_
            (try simp only [List.getElem_toArray, List.getElem_cons_zero, List.getElem_cons_succ, Act.put, List.setIfInBounds_toArray, List.set_cons_zero, List.set_cons_succ])
            refine wpAnyH_take (i := 25) (v := .bool false) rfl (by kernel_rfl) (by kernel_rfl) (by kernel_rfl) (fun _ _ _ h => h) (.inl ⟨by rfl, fun _ _ => by kernel_rfl⟩) hH ?_
            (try simp only [List.getElem_toArray, List.getElem_cons_zero, List.getElem_cons_succ, Act.put, List.setIfInBounds_toArray, List.set_cons_zero, List.set_cons_succ])
            refine wpAnyH_done (by kernel_rfl) ?_ _
            have HBN := Lib.hid hH
            clear hH
            go_wp2_with fail
            go_ret
            exact ⟨by rw [HV.out]; rfl, HB.out.trans ((hb.out.trans (HBN.out.mono hb.out.size)).mono HB.out.size)⟩
          | false =>
            have ht : thB ns en = false := by
              have e1' : en = 0 := by simpa using e1
              rw [e1']; unfold thB thN; simp
            have HV : Hid (chkW ns links en tp = 7) := by show _ = _; exact chkW_no (by rw [HCE.out]; unfold entB; rw [e1, e2, ht]; rfl)
            go_wp2_with fail
            refine wp_region_held_drew (S := fun w' => Below wr.heap.size wr w') (by kernel_rfl) (below_drewN (Below.refl _ wr) 1) (fun hH => ?_)
            refine wpAnyH_take (i := 0) (v := .bool false) rfl (by kernel_rfl) (by kernel_rfl) (by kernel_rfl) (fun _ _ _ h => h) (.inl ⟨by rfl, fun _ _ => by kernel_rfl⟩) hH ?_
            (try simp only [List.getElem_toArray, List.getElem_cons_zero, Act.put, List.setIfInBounds_toArray, List.set_cons_zero, List.set_cons_succ])
            refine wpAnyH_take (i := 1) (v := .bool true) rfl (by kernel_rfl) (by kernel_rfl) (by kernel_rfl) (fun _ _ _ h => h) (.inl ⟨by rfl, fun _ _ => by kernel_rfl⟩) hH ?_
            (try simp only [List.getElem_toArray, List.getElem_cons_zero, List.getElem_cons_succ, Act.put, List.setIfInBounds_toArray, List.set_cons_zero, List.set_cons_succ])
            refine wpAnyH_take (i := 2) (v := .bool true) rfl (by kernel_rfl) (by kernel_rfl) (by kernel_rfl) (fun _ _ _ h => h) (.inl ⟨by rfl, fun _ _ => by kernel_rfl⟩) hH ?_
            (try simp only [List.getElem_toArray, List.getElem_cons_zero, List.getElem_cons_succ, Act.put, List.setIfInBounds_toArray, List.set_cons_zero, List.set_cons_succ])
            refine wpAnyH_take (i := 3) (v := .agg (pgL A n c en tp)) rfl (by kernel_rfl) (by kernel_rfl) (by kernel_rfl) (fun _ _ _ h => h) (yieldsIf_loadP (by rfl) _ rfl rfl (fun _ q => plane_load (HCW.out.below q HCW.out.lt))) hH ?_
            (try simp only [List.getElem_toArray, List.getElem_cons_zero, List.getElem_cons_succ, Act.put, List.setIfInBounds_toArray, List.set_cons_zero, List.set_cons_succ])
            refine wpAnyH_take (i := 4) (v := .pointer (some ⟨w.heap.size, 1, none⟩)) rfl (by kernel_rfl) (by kernel_rfl) (by kernel_rfl) (fun _ _ _ h => h) (.inl ⟨by rfl, fun _ _ => by kernel_rfl⟩) hH ?_
            (try simp only [List.getElem_toArray, List.getElem_cons_zero, List.getElem_cons_succ, Act.put, List.setIfInBounds_toArray, List.set_cons_zero, List.set_cons_succ])
            refine wpAnyH_take (i := 5) (v := .int .i64 en) rfl (by kernel_rfl) (by kernel_rfl) (by kernel_rfl) (fun _ _ _ h => h) (yieldsIf_loadP (by rfl) _ rfl rfl (fun _ q => load_i64 ((HCW.out.below q HCW.out.lt).cell 1))) hH ?_
            (try simp only [List.getElem_toArray, List.getElem_cons_zero, List.getElem_cons_succ, Act.put, List.setIfInBounds_toArray, List.set_cons_zero, List.set_cons_succ])
            refine wpAnyH_call 6 16 #[.agg (pgL A n c en tp), .int .i64 en] _ (by kernel_rfl) (by rfl) (by kernel_rfl) (by kernel_rfl) (pl_there A n c ns en tp en _ (HGW.out.on hH hH.size)) ?_
            rintro e Z1 ⟨rfl, bz⟩
            rw [ht]
            have h1 : Below wr.heap.size wr Z1 := hH.trans (bz.mono hH.size)
            clear bz
            refine ⟨_, rfl, h1, ?_⟩
            clear hH
            (try simp only [List.getElem_toArray, List.getElem_cons_zero, List.getElem_cons_succ, Act.put, List.setIfInBounds_toArray, List.set_cons_zero, List.set_cons_succ])
            refine wpAnyH_take (i := 7) (v := .bool true) rfl (by kernel_rfl) (by kernel_rfl) (by kernel_rfl) (fun _ _ _ h => h) (.inl ⟨by rfl, fun _ _ => by kernel_rfl⟩) h1 ?_
            (try simp only [List.getElem_toArray, List.getElem_cons_zero, List.getElem_cons_succ, Act.put, List.setIfInBounds_toArray, List.set_cons_zero, List.set_cons_succ])
            refine wpAnyH_take (i := 8) (v := .bool true) rfl (by kernel_rfl) (by kernel_rfl) (by kernel_rfl) (fun _ _ _ h => h) (.inl ⟨by rfl, fun _ _ => by kernel_rfl⟩) h1 ?_
            (try simp only [List.getElem_toArray, List.getElem_cons_zero, List.getElem_cons_succ, Act.put, List.setIfInBounds_toArray, List.set_cons_zero, List.set_cons_succ])
            refine wpAnyH_take (i := 9) (v := undef) rfl (by kernel_rfl) (by kernel_rfl) (by kernel_rfl) (fun _ _ _ h => h) (.inr ⟨by rfl, rfl⟩) h1 ?_
            (try simp only [List.getElem_toArray, List.getElem_cons_zero, List.getElem_cons_succ, Act.put, List.setIfInBounds_toArray, List.set_cons_zero, List.set_cons_succ])
            refine wpAnyH_take (i := 10) (v := undef) rfl (by kernel_rfl) (by kernel_rfl) (by kernel_rfl) (fun _ _ _ h => h) (.inr ⟨by rfl, rfl⟩) h1 ?_
            (try simp only [List.getElem_toArray, List.getElem_cons_zero, List.getElem_cons_succ, Act.put, List.setIfInBounds_toArray, List.set_cons_zero, List.set_cons_succ])
            refine wpAnyH_take (i := 11) (v := undef) rfl (by kernel_rfl) (by kernel_rfl) (by kernel_rfl) (fun _ _ _ h => h) (.inr ⟨by rfl, rfl⟩) h1 ?_
            (try simp only [List.getElem_toArray, List.getElem_cons_zero, List.getElem_cons_succ, Act.put, List.setIfInBounds_toArray, List.set_cons_zero, List.set_cons_succ])
            refine wpAnyH_take (i := 12) (v := .bool true) rfl (by kernel_rfl) (by kernel_rfl) (by kernel_rfl) (fun _ _ _ h => h) (.inl ⟨by rfl, fun _ _ => by kernel_rfl⟩) h1 ?_
            (try simp only [List.getElem_toArray, List.getElem_cons_zero, List.getElem_cons_succ, Act.put, List.setIfInBounds_toArray, List.set_cons_zero, List.set_cons_succ])
            refine wpAnyH_take (i := 13) (v := .bool true) rfl (by kernel_rfl) (by kernel_rfl) (by kernel_rfl) (fun _ _ _ h => h) (.inl ⟨by rfl, fun _ _ => by kernel_rfl⟩) h1 ?_
            (try simp only [List.getElem_toArray, List.getElem_cons_zero, List.getElem_cons_succ, Act.put, List.setIfInBounds_toArray, List.set_cons_zero, List.set_cons_succ])
            refine wpAnyH_take (i := 14) (v := undef) rfl (by kernel_rfl) (by kernel_rfl) (by kernel_rfl) (fun _ _ _ h => h) (.inr ⟨by rfl, rfl⟩) h1 ?_
            (try simp only [List.getElem_toArray, List.getElem_cons_zero, List.getElem_cons_succ, Act.put, List.setIfInBounds_toArray, List.set_cons_zero, List.set_cons_succ])
            refine wpAnyH_take (i := 15) (v := undef) rfl (by kernel_rfl) (by kernel_rfl) (by kernel_rfl) (fun _ _ _ h => h) (.inr ⟨by rfl, rfl⟩) h1 ?_
            (try simp only [List.getElem_toArray, List.getElem_cons_zero, List.getElem_cons_succ, Act.put, List.setIfInBounds_toArray, List.set_cons_zero, List.set_cons_succ])
            refine wpAnyH_take (i := 16) (v := undef) rfl (by kernel_rfl) (by kernel_rfl) (by kernel_rfl) (fun _ _ _ h => h) (.inr ⟨by rfl, rfl⟩) h1 ?_
            (try simp only [List.getElem_toArray, List.getElem_cons_zero, List.getElem_cons_succ, Act.put, List.setIfInBounds_toArray, List.set_cons_zero, List.set_cons_succ])
            refine wpAnyH_take (i := 17) (v := undef) rfl (by kernel_rfl) (by kernel_rfl) (by kernel_rfl) (fun _ _ _ h => h) (.inr ⟨by rfl, rfl⟩) h1 ?_
            (try simp only [List.getElem_toArray, List.getElem_cons_zero, List.getElem_cons_succ, Act.put, List.setIfInBounds_toArray, List.set_cons_zero, List.set_cons_succ])
            refine wpAnyH_take (i := 18) (v := undef) rfl (by kernel_rfl) (by kernel_rfl) (by kernel_rfl) (fun _ _ _ h => h) (.inr ⟨by rfl, rfl⟩) h1 ?_
            (try simp only [List.getElem_toArray, List.getElem_cons_zero, List.getElem_cons_succ, Act.put, List.setIfInBounds_toArray, List.set_cons_zero, List.set_cons_succ])
            refine wpAnyH_take (i := 19) (v := undef) rfl (by kernel_rfl) (by kernel_rfl) (by kernel_rfl) (fun _ _ _ h => h) (.inr ⟨by rfl, rfl⟩) h1 ?_
            (try simp only [List.getElem_toArray, List.getElem_cons_zero, List.getElem_cons_succ, Act.put, List.setIfInBounds_toArray, List.set_cons_zero, List.set_cons_succ])
            refine wpAnyH_take (i := 20) (v := undef) rfl (by kernel_rfl) (by kernel_rfl) (by kernel_rfl) (fun _ _ _ h => h) (.inr ⟨by rfl, rfl⟩) h1 ?_
            (try simp only [List.getElem_toArray, List.getElem_cons_zero, List.getElem_cons_succ, Act.put, List.setIfInBounds_toArray, List.set_cons_zero, List.set_cons_succ])
            refine wpAnyH_take (i := 21) (v := undef) rfl (by kernel_rfl) (by kernel_rfl) (by kernel_rfl) (fun _ _ _ h => h) (.inr ⟨by rfl, rfl⟩) h1 ?_
            (try simp only [List.getElem_toArray, List.getElem_cons_zero, List.getElem_cons_succ, Act.put, List.setIfInBounds_toArray, List.set_cons_zero, List.set_cons_succ])
            refine wpAnyH_take (i := 22) (v := undef) rfl (by kernel_rfl) (by kernel_rfl) (by kernel_rfl) (fun _ _ _ h => h) (.inr ⟨by rfl, rfl⟩) h1 ?_
            (try simp only [List.getElem_toArray, List.getElem_cons_zero, List.getElem_cons_succ, Act.put, List.setIfInBounds_toArray, List.set_cons_zero, List.set_cons_succ])
            refine wpAnyH_take (i := 23) (v := undef) rfl (by kernel_rfl) (by kernel_rfl) (by kernel_rfl) (fun _ _ _ h => h) (.inr ⟨by rfl, rfl⟩) h1 ?_
            (try simp only [List.getElem_toArray, List.getElem_cons_zero, List.getElem_cons_succ, Act.put, List.setIfInBounds_toArray, List.set_cons_zero, List.set_cons_succ])
            refine wpAnyH_take (i := 24) (v := .bool true) rfl (by kernel_rfl) (by kernel_rfl) (by kernel_rfl) (fun _ _ _ h => h) (.inl ⟨by rfl, fun _ _ => by kernel_rfl⟩) h1 ?_
            (try simp only [List.getElem_toArray, List.getElem_cons_zero, List.getElem_cons_succ, Act.put, List.setIfInBounds_toArray, List.set_cons_zero, List.set_cons_succ])
            refine wpAnyH_take (i := 25) (v := .bool true) rfl (by kernel_rfl) (by kernel_rfl) (by kernel_rfl) (fun _ _ _ h => h) (.inl ⟨by rfl, fun _ _ => by kernel_rfl⟩) h1 ?_
            (try simp only [List.getElem_toArray, List.getElem_cons_zero, List.getElem_cons_succ, Act.put, List.setIfInBounds_toArray, List.set_cons_zero, List.set_cons_succ])
            refine wpAnyH_done (by kernel_rfl) ?_ _
            have HBN := Lib.hid h1
            clear h1
            go_wp2_with fail
            go_ret
            exact ⟨by rw [HV.out]; rfl, HB.out.trans ((hb.out.trans (HBN.out.mono hb.out.size)).mono HB.out.size)⟩
        | false =>
          cases ht : thB ns en with
          | false =>
            have HV : Hid (chkW ns links en tp = 7) := by show _ = _; exact chkW_no (by rw [HCE.out]; unfold entB; rw [e1, ht]; rfl)
            go_wp2_with fail
            refine wp_region_held_drew (S := fun w' => Below wr.heap.size wr w') (by kernel_rfl) (below_drewN (Below.refl _ wr) 1) (fun hH => ?_)
            refine wpAnyH_take (i := 0) (v := .bool false) rfl (by kernel_rfl) (by kernel_rfl) (by kernel_rfl) (fun _ _ _ h => h) (.inl ⟨by rfl, fun _ _ => by kernel_rfl⟩) hH ?_
            (try simp only [List.getElem_toArray, List.getElem_cons_zero, Act.put, List.setIfInBounds_toArray, List.set_cons_zero, List.set_cons_succ])
            refine wpAnyH_take (i := 1) (v := .bool true) rfl (by kernel_rfl) (by kernel_rfl) (by kernel_rfl) (fun _ _ _ h => h) (.inl ⟨by rfl, fun _ _ => by kernel_rfl⟩) hH ?_
            (try simp only [List.getElem_toArray, List.getElem_cons_zero, List.getElem_cons_succ, Act.put, List.setIfInBounds_toArray, List.set_cons_zero, List.set_cons_succ])
            refine wpAnyH_take (i := 2) (v := .bool true) rfl (by kernel_rfl) (by kernel_rfl) (by kernel_rfl) (fun _ _ _ h => h) (.inl ⟨by rfl, fun _ _ => by kernel_rfl⟩) hH ?_
            (try simp only [List.getElem_toArray, List.getElem_cons_zero, List.getElem_cons_succ, Act.put, List.setIfInBounds_toArray, List.set_cons_zero, List.set_cons_succ])
            refine wpAnyH_take (i := 3) (v := .agg (pgL A n c en tp)) rfl (by kernel_rfl) (by kernel_rfl) (by kernel_rfl) (fun _ _ _ h => h) (yieldsIf_loadP (by rfl) _ rfl rfl (fun _ q => plane_load (HCW.out.below q HCW.out.lt))) hH ?_
            (try simp only [List.getElem_toArray, List.getElem_cons_zero, List.getElem_cons_succ, Act.put, List.setIfInBounds_toArray, List.set_cons_zero, List.set_cons_succ])
            refine wpAnyH_take (i := 4) (v := .pointer (some ⟨w.heap.size, 1, none⟩)) rfl (by kernel_rfl) (by kernel_rfl) (by kernel_rfl) (fun _ _ _ h => h) (.inl ⟨by rfl, fun _ _ => by kernel_rfl⟩) hH ?_
            (try simp only [List.getElem_toArray, List.getElem_cons_zero, List.getElem_cons_succ, Act.put, List.setIfInBounds_toArray, List.set_cons_zero, List.set_cons_succ])
            refine wpAnyH_take (i := 5) (v := .int .i64 en) rfl (by kernel_rfl) (by kernel_rfl) (by kernel_rfl) (fun _ _ _ h => h) (yieldsIf_loadP (by rfl) _ rfl rfl (fun _ q => load_i64 ((HCW.out.below q HCW.out.lt).cell 1))) hH ?_
            (try simp only [List.getElem_toArray, List.getElem_cons_zero, List.getElem_cons_succ, Act.put, List.setIfInBounds_toArray, List.set_cons_zero, List.set_cons_succ])
            refine wpAnyH_call 6 16 #[.agg (pgL A n c en tp), .int .i64 en] _ (by kernel_rfl) (by rfl) (by kernel_rfl) (by kernel_rfl) (pl_there A n c ns en tp en _ (HGW.out.on hH hH.size)) ?_
            rintro e Z1 ⟨rfl, bz⟩
            rw [ht]
            have h1 : Below wr.heap.size wr Z1 := hH.trans (bz.mono hH.size)
            clear bz
            refine ⟨_, rfl, h1, ?_⟩
            clear hH
            (try simp only [List.getElem_toArray, List.getElem_cons_zero, List.getElem_cons_succ, Act.put, List.setIfInBounds_toArray, List.set_cons_zero, List.set_cons_succ])
            refine wpAnyH_take (i := 7) (v := .bool true) rfl (by kernel_rfl) (by kernel_rfl) (by kernel_rfl) (fun _ _ _ h => h) (.inl ⟨by rfl, fun _ _ => by kernel_rfl⟩) h1 ?_
            (try simp only [List.getElem_toArray, List.getElem_cons_zero, List.getElem_cons_succ, Act.put, List.setIfInBounds_toArray, List.set_cons_zero, List.set_cons_succ])
            refine wpAnyH_take (i := 8) (v := .bool true) rfl (by kernel_rfl) (by kernel_rfl) (by kernel_rfl) (fun _ _ _ h => h) (.inl ⟨by rfl, fun _ _ => by kernel_rfl⟩) h1 ?_
            (try simp only [List.getElem_toArray, List.getElem_cons_zero, List.getElem_cons_succ, Act.put, List.setIfInBounds_toArray, List.set_cons_zero, List.set_cons_succ])
            refine wpAnyH_take (i := 9) (v := undef) rfl (by kernel_rfl) (by kernel_rfl) (by kernel_rfl) (fun _ _ _ h => h) (.inr ⟨by rfl, rfl⟩) h1 ?_
            (try simp only [List.getElem_toArray, List.getElem_cons_zero, List.getElem_cons_succ, Act.put, List.setIfInBounds_toArray, List.set_cons_zero, List.set_cons_succ])
            refine wpAnyH_take (i := 10) (v := undef) rfl (by kernel_rfl) (by kernel_rfl) (by kernel_rfl) (fun _ _ _ h => h) (.inr ⟨by rfl, rfl⟩) h1 ?_
            (try simp only [List.getElem_toArray, List.getElem_cons_zero, List.getElem_cons_succ, Act.put, List.setIfInBounds_toArray, List.set_cons_zero, List.set_cons_succ])
            refine wpAnyH_take (i := 11) (v := undef) rfl (by kernel_rfl) (by kernel_rfl) (by kernel_rfl) (fun _ _ _ h => h) (.inr ⟨by rfl, rfl⟩) h1 ?_
            (try simp only [List.getElem_toArray, List.getElem_cons_zero, List.getElem_cons_succ, Act.put, List.setIfInBounds_toArray, List.set_cons_zero, List.set_cons_succ])
            refine wpAnyH_take (i := 12) (v := .bool true) rfl (by kernel_rfl) (by kernel_rfl) (by kernel_rfl) (fun _ _ _ h => h) (.inl ⟨by rfl, fun _ _ => by kernel_rfl⟩) h1 ?_
            (try simp only [List.getElem_toArray, List.getElem_cons_zero, List.getElem_cons_succ, Act.put, List.setIfInBounds_toArray, List.set_cons_zero, List.set_cons_succ])
            refine wpAnyH_take (i := 13) (v := .bool true) rfl (by kernel_rfl) (by kernel_rfl) (by kernel_rfl) (fun _ _ _ h => h) (.inl ⟨by rfl, fun _ _ => by kernel_rfl⟩) h1 ?_
            (try simp only [List.getElem_toArray, List.getElem_cons_zero, List.getElem_cons_succ, Act.put, List.setIfInBounds_toArray, List.set_cons_zero, List.set_cons_succ])
            refine wpAnyH_take (i := 14) (v := undef) rfl (by kernel_rfl) (by kernel_rfl) (by kernel_rfl) (fun _ _ _ h => h) (.inr ⟨by rfl, rfl⟩) h1 ?_
            (try simp only [List.getElem_toArray, List.getElem_cons_zero, List.getElem_cons_succ, Act.put, List.setIfInBounds_toArray, List.set_cons_zero, List.set_cons_succ])
            refine wpAnyH_take (i := 15) (v := undef) rfl (by kernel_rfl) (by kernel_rfl) (by kernel_rfl) (fun _ _ _ h => h) (.inr ⟨by rfl, rfl⟩) h1 ?_
            (try simp only [List.getElem_toArray, List.getElem_cons_zero, List.getElem_cons_succ, Act.put, List.setIfInBounds_toArray, List.set_cons_zero, List.set_cons_succ])
            refine wpAnyH_take (i := 16) (v := undef) rfl (by kernel_rfl) (by kernel_rfl) (by kernel_rfl) (fun _ _ _ h => h) (.inr ⟨by rfl, rfl⟩) h1 ?_
            (try simp only [List.getElem_toArray, List.getElem_cons_zero, List.getElem_cons_succ, Act.put, List.setIfInBounds_toArray, List.set_cons_zero, List.set_cons_succ])
            refine wpAnyH_take (i := 17) (v := undef) rfl (by kernel_rfl) (by kernel_rfl) (by kernel_rfl) (fun _ _ _ h => h) (.inr ⟨by rfl, rfl⟩) h1 ?_
            (try simp only [List.getElem_toArray, List.getElem_cons_zero, List.getElem_cons_succ, Act.put, List.setIfInBounds_toArray, List.set_cons_zero, List.set_cons_succ])
            refine wpAnyH_take (i := 18) (v := undef) rfl (by kernel_rfl) (by kernel_rfl) (by kernel_rfl) (fun _ _ _ h => h) (.inr ⟨by rfl, rfl⟩) h1 ?_
            (try simp only [List.getElem_toArray, List.getElem_cons_zero, List.getElem_cons_succ, Act.put, List.setIfInBounds_toArray, List.set_cons_zero, List.set_cons_succ])
            refine wpAnyH_take (i := 19) (v := undef) rfl (by kernel_rfl) (by kernel_rfl) (by kernel_rfl) (fun _ _ _ h => h) (.inr ⟨by rfl, rfl⟩) h1 ?_
            (try simp only [List.getElem_toArray, List.getElem_cons_zero, List.getElem_cons_succ, Act.put, List.setIfInBounds_toArray, List.set_cons_zero, List.set_cons_succ])
            refine wpAnyH_take (i := 20) (v := undef) rfl (by kernel_rfl) (by kernel_rfl) (by kernel_rfl) (fun _ _ _ h => h) (.inr ⟨by rfl, rfl⟩) h1 ?_
            (try simp only [List.getElem_toArray, List.getElem_cons_zero, List.getElem_cons_succ, Act.put, List.setIfInBounds_toArray, List.set_cons_zero, List.set_cons_succ])
            refine wpAnyH_take (i := 21) (v := undef) rfl (by kernel_rfl) (by kernel_rfl) (by kernel_rfl) (fun _ _ _ h => h) (.inr ⟨by rfl, rfl⟩) h1 ?_
            (try simp only [List.getElem_toArray, List.getElem_cons_zero, List.getElem_cons_succ, Act.put, List.setIfInBounds_toArray, List.set_cons_zero, List.set_cons_succ])
            refine wpAnyH_take (i := 22) (v := undef) rfl (by kernel_rfl) (by kernel_rfl) (by kernel_rfl) (fun _ _ _ h => h) (.inr ⟨by rfl, rfl⟩) h1 ?_
            (try simp only [List.getElem_toArray, List.getElem_cons_zero, List.getElem_cons_succ, Act.put, List.setIfInBounds_toArray, List.set_cons_zero, List.set_cons_succ])
            refine wpAnyH_take (i := 23) (v := undef) rfl (by kernel_rfl) (by kernel_rfl) (by kernel_rfl) (fun _ _ _ h => h) (.inr ⟨by rfl, rfl⟩) h1 ?_
            (try simp only [List.getElem_toArray, List.getElem_cons_zero, List.getElem_cons_succ, Act.put, List.setIfInBounds_toArray, List.set_cons_zero, List.set_cons_succ])
            refine wpAnyH_take (i := 24) (v := .bool true) rfl (by kernel_rfl) (by kernel_rfl) (by kernel_rfl) (fun _ _ _ h => h) (.inl ⟨by rfl, fun _ _ => by kernel_rfl⟩) h1 ?_
            (try simp only [List.getElem_toArray, List.getElem_cons_zero, List.getElem_cons_succ, Act.put, List.setIfInBounds_toArray, List.set_cons_zero, List.set_cons_succ])
            refine wpAnyH_take (i := 25) (v := .bool true) rfl (by kernel_rfl) (by kernel_rfl) (by kernel_rfl) (fun _ _ _ h => h) (.inl ⟨by rfl, fun _ _ => by kernel_rfl⟩) h1 ?_
            (try simp only [List.getElem_toArray, List.getElem_cons_zero, List.getElem_cons_succ, Act.put, List.setIfInBounds_toArray, List.set_cons_zero, List.set_cons_succ])
            refine wpAnyH_done (by kernel_rfl) ?_ _
            have HBN := Lib.hid h1
            clear h1
            go_wp2_with fail
            go_ret
            exact ⟨by rw [HV.out]; rfl, HB.out.trans ((hb.out.trans (HBN.out.mono hb.out.size)).mono HB.out.size)⟩
          | true =>
            obtain ⟨k, rfl, hk⟩ := thB_nat_iff.1 ht
            have hkn : k < n := by have h1 := (thN_iff.1 hk).2.1; have h2 := HL.out; omega
            obtain ⟨b, o, rfl, hlv⟩ := HGW.out.levY hkn
            obtain ⟨lev, hle⟩ : ∃ lev, (nAt ns k).level = lev := ⟨_, rfl⟩
            rw [hle] at hlv
            have HLV := Lib.hid hlv
            have hle2 : (nAt ns (k : Int).toNat).level = lev := by rw [Int.toNat_natCast]; exact hle
            clear hk hlv hle
            cases e3 : decide (tp ≥ 0) with
            | false =>
              have e5 : decide (tp < 0) = true := by simp at e3 ⊢; exact e3
              have HV : Hid (chkW ns links (k : Int) tp = 7) := by show _ = _; exact chkW_no (by rw [HCE.out]; unfold entB; rw [e1, ht, e3]; rfl)
              go_wp2_with fail
              refine wp_region_held_drew (S := fun w' => Below wr.heap.size wr w') (by kernel_rfl) (below_drewN (Below.refl _ wr) 1) (fun hH => ?_)
              refine wpAnyH_take (i := 0) (v := .bool false) rfl (by kernel_rfl) (by kernel_rfl) (by kernel_rfl) (fun _ _ _ h => h) (.inl ⟨by rfl, fun _ _ => by kernel_rfl⟩) hH ?_
              (try simp only [List.getElem_toArray, List.getElem_cons_zero, Act.put, List.setIfInBounds_toArray, List.set_cons_zero, List.set_cons_succ])
              refine wpAnyH_take (i := 1) (v := .bool true) rfl (by kernel_rfl) (by kernel_rfl) (by kernel_rfl) (fun _ _ _ h => h) (.inl ⟨by rfl, fun _ _ => by kernel_rfl⟩) hH ?_
              (try simp only [List.getElem_toArray, List.getElem_cons_zero, List.getElem_cons_succ, Act.put, List.setIfInBounds_toArray, List.set_cons_zero, List.set_cons_succ])
              refine wpAnyH_take (i := 2) (v := .bool true) rfl (by kernel_rfl) (by kernel_rfl) (by kernel_rfl) (fun _ _ _ h => h) (.inl ⟨by rfl, fun _ _ => by kernel_rfl⟩) hH ?_
              (try simp only [List.getElem_toArray, List.getElem_cons_zero, List.getElem_cons_succ, Act.put, List.setIfInBounds_toArray, List.set_cons_zero, List.set_cons_succ])
              refine wpAnyH_take (i := 3) (v := .agg (pgL (some ⟨b, o, none⟩) n c (k : Int) tp)) rfl (by kernel_rfl) (by kernel_rfl) (by kernel_rfl) (fun _ _ _ h => h) (yieldsIf_loadP (by rfl) _ rfl rfl (fun _ q => plane_load (HCW.out.below q HCW.out.lt))) hH ?_
              (try simp only [List.getElem_toArray, List.getElem_cons_zero, List.getElem_cons_succ, Act.put, List.setIfInBounds_toArray, List.set_cons_zero, List.set_cons_succ])
              refine wpAnyH_take (i := 4) (v := .pointer (some ⟨w.heap.size, 1, none⟩)) rfl (by kernel_rfl) (by kernel_rfl) (by kernel_rfl) (fun _ _ _ h => h) (.inl ⟨by rfl, fun _ _ => by kernel_rfl⟩) hH ?_
              (try simp only [List.getElem_toArray, List.getElem_cons_zero, List.getElem_cons_succ, Act.put, List.setIfInBounds_toArray, List.set_cons_zero, List.set_cons_succ])
              refine wpAnyH_take (i := 5) (v := .int .i64 (k : Int)) rfl (by kernel_rfl) (by kernel_rfl) (by kernel_rfl) (fun _ _ _ h => h) (yieldsIf_loadP (by rfl) _ rfl rfl (fun _ q => load_i64 ((HCW.out.below q HCW.out.lt).cell 1))) hH ?_
              (try simp only [List.getElem_toArray, List.getElem_cons_zero, List.getElem_cons_succ, Act.put, List.setIfInBounds_toArray, List.set_cons_zero, List.set_cons_succ])
              refine wpAnyH_call 6 16 #[.agg (pgL (some ⟨b, o, none⟩) n c (k : Int) tp), .int .i64 (k : Int)] _ (by kernel_rfl) (by rfl) (by kernel_rfl) (by kernel_rfl) (pl_there (some ⟨b, o, none⟩) n c ns (k : Int) tp (k : Int) _ (HGW.out.on hH hH.size)) ?_
              rintro e Z1 ⟨rfl, bz⟩
              rw [ht]
              have h1 : Below wr.heap.size wr Z1 := hH.trans (bz.mono hH.size)
              clear bz
              refine ⟨_, rfl, h1, ?_⟩
              clear hH
              (try simp only [List.getElem_toArray, List.getElem_cons_zero, List.getElem_cons_succ, Act.put, List.setIfInBounds_toArray, List.set_cons_zero, List.set_cons_succ])
              refine wpAnyH_take (i := 7) (v := .bool false) rfl (by kernel_rfl) (by kernel_rfl) (by kernel_rfl) (fun _ _ _ h => h) (.inl ⟨by rfl, fun _ _ => by kernel_rfl⟩) h1 ?_
              (try simp only [List.getElem_toArray, List.getElem_cons_zero, List.getElem_cons_succ, Act.put, List.setIfInBounds_toArray, List.set_cons_zero, List.set_cons_succ])
              refine wpAnyH_take (i := 8) (v := .bool false) rfl (by kernel_rfl) (by kernel_rfl) (by kernel_rfl) (fun _ _ _ h => h) (.inl ⟨by rfl, fun _ _ => by kernel_rfl⟩) h1 ?_
              (try simp only [List.getElem_toArray, List.getElem_cons_zero, List.getElem_cons_succ, Act.put, List.setIfInBounds_toArray, List.set_cons_zero, List.set_cons_succ])
              refine wpAnyH_take (i := 9) (v := .pointer (some ⟨w.heap.size, 2, none⟩)) rfl (by kernel_rfl) (by kernel_rfl) (by kernel_rfl) (fun _ _ _ h => h) (.inl ⟨by rfl, fun _ _ => by kernel_rfl⟩) h1 ?_
              (try simp only [List.getElem_toArray, List.getElem_cons_zero, List.getElem_cons_succ, Act.put, List.setIfInBounds_toArray, List.set_cons_zero, List.set_cons_succ])
              refine wpAnyH_take (i := 10) (v := .int .i64 tp) rfl (by kernel_rfl) (by kernel_rfl) (by kernel_rfl) (fun _ _ _ h => h) (yieldsIf_loadP (by rfl) _ rfl rfl (fun _ q => load_i64 ((HCW.out.below q HCW.out.lt).cell 2))) h1 ?_
              (try simp only [List.getElem_toArray, List.getElem_cons_zero, List.getElem_cons_succ, Act.put, List.setIfInBounds_toArray, List.set_cons_zero, List.set_cons_succ])
              refine wpAnyH_take (i := 11) (v := .bool true) rfl (by kernel_rfl) (by kernel_rfl) (by kernel_rfl) (fun _ _ _ h => h) (yieldsIf_lssR (by rfl) _ _ rfl rfl rfl e5) h1 ?_
              (try simp only [List.getElem_toArray, List.getElem_cons_zero, List.getElem_cons_succ, Act.put, List.setIfInBounds_toArray, List.set_cons_zero, List.set_cons_succ])
              refine wpAnyH_take (i := 12) (v := .bool true) rfl (by kernel_rfl) (by kernel_rfl) (by kernel_rfl) (fun _ _ _ h => h) (.inl ⟨by rfl, fun _ _ => by kernel_rfl⟩) h1 ?_
              (try simp only [List.getElem_toArray, List.getElem_cons_zero, List.getElem_cons_succ, Act.put, List.setIfInBounds_toArray, List.set_cons_zero, List.set_cons_succ])
              refine wpAnyH_take (i := 13) (v := .bool true) rfl (by kernel_rfl) (by kernel_rfl) (by kernel_rfl) (fun _ _ _ h => h) (.inl ⟨by rfl, fun _ _ => by kernel_rfl⟩) h1 ?_
              (try simp only [List.getElem_toArray, List.getElem_cons_zero, List.getElem_cons_succ, Act.put, List.setIfInBounds_toArray, List.set_cons_zero, List.set_cons_succ])
              refine wpAnyH_take (i := 14) (v := undef) rfl (by kernel_rfl) (by kernel_rfl) (by kernel_rfl) (fun _ _ _ h => h) (.inr ⟨by rfl, rfl⟩) h1 ?_
              (try simp only [List.getElem_toArray, List.getElem_cons_zero, List.getElem_cons_succ, Act.put, List.setIfInBounds_toArray, List.set_cons_zero, List.set_cons_succ])
              refine wpAnyH_take (i := 15) (v := undef) rfl (by kernel_rfl) (by kernel_rfl) (by kernel_rfl) (fun _ _ _ h => h) (.inr ⟨by rfl, rfl⟩) h1 ?_
              (try simp only [List.getElem_toArray, List.getElem_cons_zero, List.getElem_cons_succ, Act.put, List.setIfInBounds_toArray, List.set_cons_zero, List.set_cons_succ])
              refine wpAnyH_take (i := 16) (v := undef) rfl (by kernel_rfl) (by kernel_rfl) (by kernel_rfl) (fun _ _ _ h => h) (.inr ⟨by rfl, rfl⟩) h1 ?_
              (try simp only [List.getElem_toArray, List.getElem_cons_zero, List.getElem_cons_succ, Act.put, List.setIfInBounds_toArray, List.set_cons_zero, List.set_cons_succ])
              refine wpAnyH_take (i := 17) (v := undef) rfl (by kernel_rfl) (by kernel_rfl) (by kernel_rfl) (fun _ _ _ h => h) (.inr ⟨by rfl, rfl⟩) h1 ?_
              (try simp only [List.getElem_toArray, List.getElem_cons_zero, List.getElem_cons_succ, Act.put, List.setIfInBounds_toArray, List.set_cons_zero, List.set_cons_succ])
              refine wpAnyH_take (i := 18) (v := undef) rfl (by kernel_rfl) (by kernel_rfl) (by kernel_rfl) (fun _ _ _ h => h) (.inr ⟨by rfl, rfl⟩) h1 ?_
              (try simp only [List.getElem_toArray, List.getElem_cons_zero, List.getElem_cons_succ, Act.put, List.setIfInBounds_toArray, List.set_cons_zero, List.set_cons_succ])
              refine wpAnyH_take (i := 19) (v := undef) rfl (by kernel_rfl) (by kernel_rfl) (by kernel_rfl) (fun _ _ _ h => h) (.inr ⟨by rfl, rfl⟩) h1 ?_
              (try simp only [List.getElem_toArray, List.getElem_cons_zero, List.getElem_cons_succ, Act.put, List.setIfInBounds_toArray, List.set_cons_zero, List.set_cons_succ])
              refine wpAnyH_take (i := 20) (v := undef) rfl (by kernel_rfl) (by kernel_rfl) (by kernel_rfl) (fun _ _ _ h => h) (.inr ⟨by rfl, rfl⟩) h1 ?_
              (try simp only [List.getElem_toArray, List.getElem_cons_zero, List.getElem_cons_succ, Act.put, List.setIfInBounds_toArray, List.set_cons_zero, List.set_cons_succ])
              refine wpAnyH_take (i := 21) (v := undef) rfl (by kernel_rfl) (by kernel_rfl) (by kernel_rfl) (fun _ _ _ h => h) (.inr ⟨by rfl, rfl⟩) h1 ?_
              (try simp only [List.getElem_toArray, List.getElem_cons_zero, List.getElem_cons_succ, Act.put, List.setIfInBounds_toArray, List.set_cons_zero, List.set_cons_succ])
              refine wpAnyH_take (i := 22) (v := undef) rfl (by kernel_rfl) (by kernel_rfl) (by kernel_rfl) (fun _ _ _ h => h) (.inr ⟨by rfl, rfl⟩) h1 ?_
              (try simp only [List.getElem_toArray, List.getElem_cons_zero, List.getElem_cons_succ, Act.put, List.setIfInBounds_toArray, List.set_cons_zero, List.set_cons_succ])
              refine wpAnyH_take (i := 23) (v := undef) rfl (by kernel_rfl) (by kernel_rfl) (by kernel_rfl) (fun _ _ _ h => h) (.inr ⟨by rfl, rfl⟩) h1 ?_
              (try simp only [List.getElem_toArray, List.getElem_cons_zero, List.getElem_cons_succ, Act.put, List.setIfInBounds_toArray, List.set_cons_zero, List.set_cons_succ])
              refine wpAnyH_take (i := 24) (v := .bool true) rfl (by kernel_rfl) (by kernel_rfl) (by kernel_rfl) (fun _ _ _ h => h) (.inl ⟨by rfl, fun _ _ => by kernel_rfl⟩) h1 ?_
              (try simp only [List.getElem_toArray, List.getElem_cons_zero, List.getElem_cons_succ, Act.put, List.setIfInBounds_toArray, List.set_cons_zero, List.set_cons_succ])
              refine wpAnyH_take (i := 25) (v := .bool true) rfl (by kernel_rfl) (by kernel_rfl) (by kernel_rfl) (fun _ _ _ h => h) (.inl ⟨by rfl, fun _ _ => by kernel_rfl⟩) h1 ?_
              (try simp only [List.getElem_toArray, List.getElem_cons_zero, List.getElem_cons_succ, Act.put, List.setIfInBounds_toArray, List.set_cons_zero, List.set_cons_succ])
              refine wpAnyH_done (by kernel_rfl) ?_ _
              have HBN := Lib.hid h1
              clear h1
              go_wp2_with fail
              go_ret
              exact ⟨by rw [HV.out]; rfl, HB.out.trans ((hb.out.trans (HBN.out.mono hb.out.size)).mono HB.out.size)⟩
            | true =>
              have e5 : decide (tp < 0) = false := by simp at e3 ⊢; exact e3
              cases e4 : decide (tp ≤ lev) with
              | false =>
                have e6 : decide (tp > lev) = true := by simp at e4 ⊢; exact e4
                have HV : Hid (chkW ns links (k : Int) tp = 7) := by show _ = _; exact chkW_no (by rw [HCE.out]; unfold entB; rw [e1, ht, e3, hle2, e4]; rfl)
                go_wp2_with fail
                refine wp_region_held_drew (S := fun w' => Below wr.heap.size wr w') (by kernel_rfl) (below_drewN (Below.refl _ wr) 1) (fun hH => ?_)
                refine wpAnyH_take (i := 0) (v := .bool false) rfl (by kernel_rfl) (by kernel_rfl) (by kernel_rfl) (fun _ _ _ h => h) (.inl ⟨by rfl, fun _ _ => by kernel_rfl⟩) hH ?_
                (try simp only [List.getElem_toArray, List.getElem_cons_zero, Act.put, List.setIfInBounds_toArray, List.set_cons_zero, List.set_cons_succ])
                refine wpAnyH_take (i := 1) (v := .bool true) rfl (by kernel_rfl) (by kernel_rfl) (by kernel_rfl) (fun _ _ _ h => h) (.inl ⟨by rfl, fun _ _ => by kernel_rfl⟩) hH ?_
                (try simp only [List.getElem_toArray, List.getElem_cons_zero, List.getElem_cons_succ, Act.put, List.setIfInBounds_toArray, List.set_cons_zero, List.set_cons_succ])
                refine wpAnyH_take (i := 2) (v := .bool true) rfl (by kernel_rfl) (by kernel_rfl) (by kernel_rfl) (fun _ _ _ h => h) (.inl ⟨by rfl, fun _ _ => by kernel_rfl⟩) hH ?_
                (try simp only [List.getElem_toArray, List.getElem_cons_zero, List.getElem_cons_succ, Act.put, List.setIfInBounds_toArray, List.set_cons_zero, List.set_cons_succ])
                refine wpAnyH_take (i := 3) (v := .agg (pgL (some ⟨b, o, none⟩) n c (k : Int) tp)) rfl (by kernel_rfl) (by kernel_rfl) (by kernel_rfl) (fun _ _ _ h => h) (yieldsIf_loadP (by rfl) _ rfl rfl (fun _ q => plane_load (HCW.out.below q HCW.out.lt))) hH ?_
                (try simp only [List.getElem_toArray, List.getElem_cons_zero, List.getElem_cons_succ, Act.put, List.setIfInBounds_toArray, List.set_cons_zero, List.set_cons_succ])
                refine wpAnyH_take (i := 4) (v := .pointer (some ⟨w.heap.size, 1, none⟩)) rfl (by kernel_rfl) (by kernel_rfl) (by kernel_rfl) (fun _ _ _ h => h) (.inl ⟨by rfl, fun _ _ => by kernel_rfl⟩) hH ?_
                (try simp only [List.getElem_toArray, List.getElem_cons_zero, List.getElem_cons_succ, Act.put, List.setIfInBounds_toArray, List.set_cons_zero, List.set_cons_succ])
                refine wpAnyH_take (i := 5) (v := .int .i64 (k : Int)) rfl (by kernel_rfl) (by kernel_rfl) (by kernel_rfl) (fun _ _ _ h => h) (yieldsIf_loadP (by rfl) _ rfl rfl (fun _ q => load_i64 ((HCW.out.below q HCW.out.lt).cell 1))) hH ?_
                (try simp only [List.getElem_toArray, List.getElem_cons_zero, List.getElem_cons_succ, Act.put, List.setIfInBounds_toArray, List.set_cons_zero, List.set_cons_succ])
                refine wpAnyH_call 6 16 #[.agg (pgL (some ⟨b, o, none⟩) n c (k : Int) tp), .int .i64 (k : Int)] _ (by kernel_rfl) (by rfl) (by kernel_rfl) (by kernel_rfl) (pl_there (some ⟨b, o, none⟩) n c ns (k : Int) tp (k : Int) _ (HGW.out.on hH hH.size)) ?_
                rintro e Z1 ⟨rfl, bz⟩
                rw [ht]
                have h1 : Below wr.heap.size wr Z1 := hH.trans (bz.mono hH.size)
                clear bz
                refine ⟨_, rfl, h1, ?_⟩
                clear hH
                (try simp only [List.getElem_toArray, List.getElem_cons_zero, List.getElem_cons_succ, Act.put, List.setIfInBounds_toArray, List.set_cons_zero, List.set_cons_succ])
                refine wpAnyH_take (i := 7) (v := .bool false) rfl (by kernel_rfl) (by kernel_rfl) (by kernel_rfl) (fun _ _ _ h => h) (.inl ⟨by rfl, fun _ _ => by kernel_rfl⟩) h1 ?_
                (try simp only [List.getElem_toArray, List.getElem_cons_zero, List.getElem_cons_succ, Act.put, List.setIfInBounds_toArray, List.set_cons_zero, List.set_cons_succ])
                refine wpAnyH_take (i := 8) (v := .bool false) rfl (by kernel_rfl) (by kernel_rfl) (by kernel_rfl) (fun _ _ _ h => h) (.inl ⟨by rfl, fun _ _ => by kernel_rfl⟩) h1 ?_
                (try simp only [List.getElem_toArray, List.getElem_cons_zero, List.getElem_cons_succ, Act.put, List.setIfInBounds_toArray, List.set_cons_zero, List.set_cons_succ])
                refine wpAnyH_take (i := 9) (v := .pointer (some ⟨w.heap.size, 2, none⟩)) rfl (by kernel_rfl) (by kernel_rfl) (by kernel_rfl) (fun _ _ _ h => h) (.inl ⟨by rfl, fun _ _ => by kernel_rfl⟩) h1 ?_
                (try simp only [List.getElem_toArray, List.getElem_cons_zero, List.getElem_cons_succ, Act.put, List.setIfInBounds_toArray, List.set_cons_zero, List.set_cons_succ])
                refine wpAnyH_take (i := 10) (v := .int .i64 tp) rfl (by kernel_rfl) (by kernel_rfl) (by kernel_rfl) (fun _ _ _ h => h) (yieldsIf_loadP (by rfl) _ rfl rfl (fun _ q => load_i64 ((HCW.out.below q HCW.out.lt).cell 2))) h1 ?_
                (try simp only [List.getElem_toArray, List.getElem_cons_zero, List.getElem_cons_succ, Act.put, List.setIfInBounds_toArray, List.set_cons_zero, List.set_cons_succ])
                refine wpAnyH_take (i := 11) (v := .bool false) rfl (by kernel_rfl) (by kernel_rfl) (by kernel_rfl) (fun _ _ _ h => h) (yieldsIf_lssR (by rfl) _ _ rfl rfl rfl e5) h1 ?_
                (try simp only [List.getElem_toArray, List.getElem_cons_zero, List.getElem_cons_succ, Act.put, List.setIfInBounds_toArray, List.set_cons_zero, List.set_cons_succ])
                refine wpAnyH_take (i := 12) (v := .bool false) rfl (by kernel_rfl) (by kernel_rfl) (by kernel_rfl) (fun _ _ _ h => h) (.inl ⟨by rfl, fun _ _ => by kernel_rfl⟩) h1 ?_
                (try simp only [List.getElem_toArray, List.getElem_cons_zero, List.getElem_cons_succ, Act.put, List.setIfInBounds_toArray, List.set_cons_zero, List.set_cons_succ])
                refine wpAnyH_take (i := 13) (v := .bool false) rfl (by kernel_rfl) (by kernel_rfl) (by kernel_rfl) (fun _ _ _ h => h) (.inl ⟨by rfl, fun _ _ => by kernel_rfl⟩) h1 ?_
                (try simp only [List.getElem_toArray, List.getElem_cons_zero, List.getElem_cons_succ, Act.put, List.setIfInBounds_toArray, List.set_cons_zero, List.set_cons_succ])
                refine wpAnyH_take (i := 14) (v := .pointer (some ⟨w.heap.size, 2, none⟩)) rfl (by kernel_rfl) (by kernel_rfl) (by kernel_rfl) (fun _ _ _ h => h) (.inl ⟨by rfl, fun _ _ => by kernel_rfl⟩) h1 ?_
                (try simp only [List.getElem_toArray, List.getElem_cons_zero, List.getElem_cons_succ, Act.put, List.setIfInBounds_toArray, List.set_cons_zero, List.set_cons_succ])
                refine wpAnyH_take (i := 15) (v := .int .i64 tp) rfl (by kernel_rfl) (by kernel_rfl) (by kernel_rfl) (fun _ _ _ h => h) (yieldsIf_loadP (by rfl) _ rfl rfl (fun _ q => load_i64 ((HCW.out.below q HCW.out.lt).cell 2))) h1 ?_
                (try simp only [List.getElem_toArray, List.getElem_cons_zero, List.getElem_cons_succ, Act.put, List.setIfInBounds_toArray, List.set_cons_zero, List.set_cons_succ])
                refine wpAnyH_take (i := 16) (v := .pointer (some ⟨w.heap.size, 0, none⟩)) rfl (by kernel_rfl) (by kernel_rfl) (by kernel_rfl) (fun _ _ _ h => h) (.inl ⟨by rfl, fun _ _ => by kernel_rfl⟩) h1 ?_
                (try simp only [List.getElem_toArray, List.getElem_cons_zero, List.getElem_cons_succ, Act.put, List.setIfInBounds_toArray, List.set_cons_zero, List.set_cons_succ])
                refine wpAnyH_take (i := 17) (v := .slice (some ⟨b, o, none⟩) n c) rfl (by kernel_rfl) (by kernel_rfl) (by kernel_rfl) (fun _ _ _ h => h) (yieldsIf_loadP (by rfl) _ rfl rfl (fun _ q => load_nodes ((HCW.out.below q HCW.out.lt).cell 0))) h1 ?_
                (try simp only [List.getElem_toArray, List.getElem_cons_zero, List.getElem_cons_succ, Act.put, List.setIfInBounds_toArray, List.set_cons_zero, List.set_cons_succ])
                refine wpAnyH_take (i := 18) (v := .pointer (some ⟨w.heap.size, 1, none⟩)) rfl (by kernel_rfl) (by kernel_rfl) (by kernel_rfl) (fun _ _ _ h => h) (.inl ⟨by rfl, fun _ _ => by kernel_rfl⟩) h1 ?_
                (try simp only [List.getElem_toArray, List.getElem_cons_zero, List.getElem_cons_succ, Act.put, List.setIfInBounds_toArray, List.set_cons_zero, List.set_cons_succ])
                refine wpAnyH_take (i := 19) (v := .int .i64 (k : Int)) rfl (by kernel_rfl) (by kernel_rfl) (by kernel_rfl) (fun _ _ _ h => h) (yieldsIf_loadP (by rfl) _ rfl rfl (fun _ q => load_i64 ((HCW.out.below q HCW.out.lt).cell 1))) h1 ?_
                (try simp only [List.getElem_toArray, List.getElem_cons_zero, List.getElem_cons_succ, Act.put, List.setIfInBounds_toArray, List.set_cons_zero, List.set_cons_succ])
                refine wpAnyH_take (i := 20) (v := .pointer (some ⟨b, o + k * 7, none⟩)) rfl (by kernel_rfl) (by kernel_rfl) (by kernel_rfl) (fun _ _ _ h => h) (yieldsIf_index Try.underlying22 sz_node (by rfl) _ _ rfl rfl rfl hkn) h1 ?_
                (try simp only [List.getElem_toArray, List.getElem_cons_zero, List.getElem_cons_succ, Act.put, List.setIfInBounds_toArray, List.set_cons_zero, List.set_cons_succ])
                refine wpAnyH_take (i := 21) (v := .pointer (some ⟨b, o + k * 7 + 3, none⟩)) rfl (by kernel_rfl) (by kernel_rfl) (by kernel_rfl) (fun _ _ _ h => h) (.inl ⟨by rfl, fun _ _ => by kernel_rfl⟩) h1 ?_
                (try simp only [List.getElem_toArray, List.getElem_cons_zero, List.getElem_cons_succ, Act.put, List.setIfInBounds_toArray, List.set_cons_zero, List.set_cons_succ])
                refine wpAnyH_take (i := 22) (v := .int .i64 lev) rfl (by kernel_rfl) (by kernel_rfl) (by kernel_rfl) (fun _ _ _ h => h) (yieldsIf_loadP (by rfl) _ rfl rfl (fun _ q => load_i64 (HLV.out _ q))) h1 ?_
                (try simp only [List.getElem_toArray, List.getElem_cons_zero, List.getElem_cons_succ, Act.put, List.setIfInBounds_toArray, List.set_cons_zero, List.set_cons_succ])
                refine wpAnyH_take (i := 23) (v := .bool true) rfl (by kernel_rfl) (by kernel_rfl) (by kernel_rfl) (fun _ _ _ h => h) (yieldsIf_gtrR (by rfl) _ _ rfl rfl rfl e6) h1 ?_
                (try simp only [List.getElem_toArray, List.getElem_cons_zero, List.getElem_cons_succ, Act.put, List.setIfInBounds_toArray, List.set_cons_zero, List.set_cons_succ])
                refine wpAnyH_take (i := 24) (v := .bool true) rfl (by kernel_rfl) (by kernel_rfl) (by kernel_rfl) (fun _ _ _ h => h) (.inl ⟨by rfl, fun _ _ => by kernel_rfl⟩) h1 ?_
                (try simp only [List.getElem_toArray, List.getElem_cons_zero, List.getElem_cons_succ, Act.put, List.setIfInBounds_toArray, List.set_cons_zero, List.set_cons_succ])
                refine wpAnyH_take (i := 25) (v := .bool true) rfl (by kernel_rfl) (by kernel_rfl) (by kernel_rfl) (fun _ _ _ h => h) (.inl ⟨by rfl, fun _ _ => by kernel_rfl⟩) h1 ?_
                (try simp only [List.getElem_toArray, List.getElem_cons_zero, List.getElem_cons_succ, Act.put, List.setIfInBounds_toArray, List.set_cons_zero, List.set_cons_succ])
                refine wpAnyH_done (by kernel_rfl) ?_ _
                have HBN := Lib.hid h1
                clear h1
                go_wp2_with fail
                go_ret
                exact ⟨by rw [HV.out]; rfl, HB.out.trans ((hb.out.trans (HBN.out.mono hb.out.size)).mono HB.out.size)⟩
              | true =>
                have e6 : decide (tp > lev) = false := by simp at e4 ⊢; exact e4
                have HV : Hid (chkW ns links (k : Int) tp = 0) := by show _ = _; exact chkW_yes (by rw [HCE.out]; unfold entB; rw [e1, ht, e3, hle2, e4]; rfl)
                go_wp2_with fail
                refine wp_region_held_drew (S := fun w' => Below wr.heap.size wr w') (by kernel_rfl) (below_drewN (Below.refl _ wr) 1) (fun hH => ?_)
                refine wpAnyH_take (i := 0) (v := .bool false) rfl (by kernel_rfl) (by kernel_rfl) (by kernel_rfl) (fun _ _ _ h => h) (.inl ⟨by rfl, fun _ _ => by kernel_rfl⟩) hH ?_
                (try simp only [List.getElem_toArray, List.getElem_cons_zero, Act.put, List.setIfInBounds_toArray, List.set_cons_zero, List.set_cons_succ])
                refine wpAnyH_take (i := 1) (v := .bool true) rfl (by kernel_rfl) (by kernel_rfl) (by kernel_rfl) (fun _ _ _ h => h) (.inl ⟨by rfl, fun _ _ => by kernel_rfl⟩) hH ?_
                (try simp only [List.getElem_toArray, List.getElem_cons_zero, List.getElem_cons_succ, Act.put, List.setIfInBounds_toArray, List.set_cons_zero, List.set_cons_succ])
                refine wpAnyH_take (i := 2) (v := .bool true) rfl (by kernel_rfl) (by kernel_rfl) (by kernel_rfl) (fun _ _ _ h => h) (.inl ⟨by rfl, fun _ _ => by kernel_rfl⟩) hH ?_
                (try simp only [List.getElem_toArray, List.getElem_cons_zero, List.getElem_cons_succ, Act.put, List.setIfInBounds_toArray, List.set_cons_zero, List.set_cons_succ])
                refine wpAnyH_take (i := 3) (v := .agg (pgL (some ⟨b, o, none⟩) n c (k : Int) tp)) rfl (by kernel_rfl) (by kernel_rfl) (by kernel_rfl) (fun _ _ _ h => h) (yieldsIf_loadP (by rfl) _ rfl rfl (fun _ q => plane_load (HCW.out.below q HCW.out.lt))) hH ?_
                (try simp only [List.getElem_toArray, List.getElem_cons_zero, List.getElem_cons_succ, Act.put, List.setIfInBounds_toArray, List.set_cons_zero, List.set_cons_succ])
                refine wpAnyH_take (i := 4) (v := .pointer (some ⟨w.heap.size, 1, none⟩)) rfl (by kernel_rfl) (by kernel_rfl) (by kernel_rfl) (fun _ _ _ h => h) (.inl ⟨by rfl, fun _ _ => by kernel_rfl⟩) hH ?_
                (try simp only [List.getElem_toArray, List.getElem_cons_zero, List.getElem_cons_succ, Act.put, List.setIfInBounds_toArray, List.set_cons_zero, List.set_cons_succ])
                refine wpAnyH_take (i := 5) (v := .int .i64 (k : Int)) rfl (by kernel_rfl) (by kernel_rfl) (by kernel_rfl) (fun _ _ _ h => h) (yieldsIf_loadP (by rfl) _ rfl rfl (fun _ q => load_i64 ((HCW.out.below q HCW.out.lt).cell 1))) hH ?_
                (try simp only [List.getElem_toArray, List.getElem_cons_zero, List.getElem_cons_succ, Act.put, List.setIfInBounds_toArray, List.set_cons_zero, List.set_cons_succ])
                refine wpAnyH_call 6 16 #[.agg (pgL (some ⟨b, o, none⟩) n c (k : Int) tp), .int .i64 (k : Int)] _ (by kernel_rfl) (by rfl) (by kernel_rfl) (by kernel_rfl) (pl_there (some ⟨b, o, none⟩) n c ns (k : Int) tp (k : Int) _ (HGW.out.on hH hH.size)) ?_
                rintro e Z1 ⟨rfl, bz⟩
                rw [ht]
                have h1 : Below wr.heap.size wr Z1 := hH.trans (bz.mono hH.size)
                clear bz
                refine ⟨_, rfl, h1, ?_⟩
                clear hH
                (try simp only [List.getElem_toArray, List.getElem_cons_zero, List.getElem_cons_succ, Act.put, List.setIfInBounds_toArray, List.set_cons_zero, List.set_cons_succ])
                refine wpAnyH_take (i := 7) (v := .bool false) rfl (by kernel_rfl) (by kernel_rfl) (by kernel_rfl) (fun _ _ _ h => h) (.inl ⟨by rfl, fun _ _ => by kernel_rfl⟩) h1 ?_
                (try simp only [List.getElem_toArray, List.getElem_cons_zero, List.getElem_cons_succ, Act.put, List.setIfInBounds_toArray, List.set_cons_zero, List.set_cons_succ])
                refine wpAnyH_take (i := 8) (v := .bool false) rfl (by kernel_rfl) (by kernel_rfl) (by kernel_rfl) (fun _ _ _ h => h) (.inl ⟨by rfl, fun _ _ => by kernel_rfl⟩) h1 ?_
                (try simp only [List.getElem_toArray, List.getElem_cons_zero, List.getElem_cons_succ, Act.put, List.setIfInBounds_toArray, List.set_cons_zero, List.set_cons_succ])
                refine wpAnyH_take (i := 9) (v := .pointer (some ⟨w.heap.size, 2, none⟩)) rfl (by kernel_rfl) (by kernel_rfl) (by kernel_rfl) (fun _ _ _ h => h) (.inl ⟨by rfl, fun _ _ => by kernel_rfl⟩) h1 ?_
                (try simp only [List.getElem_toArray, List.getElem_cons_zero, List.getElem_cons_succ, Act.put, List.setIfInBounds_toArray, List.set_cons_zero, List.set_cons_succ])
                refine wpAnyH_take (i := 10) (v := .int .i64 tp) rfl (by kernel_rfl) (by kernel_rfl) (by kernel_rfl) (fun _ _ _ h => h) (yieldsIf_loadP (by rfl) _ rfl rfl (fun _ q => load_i64 ((HCW.out.below q HCW.out.lt).cell 2))) h1 ?_
                (try simp only [List.getElem_toArray, List.getElem_cons_zero, List.getElem_cons_succ, Act.put, List.setIfInBounds_toArray, List.set_cons_zero, List.set_cons_succ])
                refine wpAnyH_take (i := 11) (v := .bool false) rfl (by kernel_rfl) (by kernel_rfl) (by kernel_rfl) (fun _ _ _ h => h) (yieldsIf_lssR (by rfl) _ _ rfl rfl rfl e5) h1 ?_
                (try simp only [List.getElem_toArray, List.getElem_cons_zero, List.getElem_cons_succ, Act.put, List.setIfInBounds_toArray, List.set_cons_zero, List.set_cons_succ])
                refine wpAnyH_take (i := 12) (v := .bool false) rfl (by kernel_rfl) (by kernel_rfl) (by kernel_rfl) (fun _ _ _ h => h) (.inl ⟨by rfl, fun _ _ => by kernel_rfl⟩) h1 ?_
                (try simp only [List.getElem_toArray, List.getElem_cons_zero, List.getElem_cons_succ, Act.put, List.setIfInBounds_toArray, List.set_cons_zero, List.set_cons_succ])
                refine wpAnyH_take (i := 13) (v := .bool false) rfl (by kernel_rfl) (by kernel_rfl) (by kernel_rfl) (fun _ _ _ h => h) (.inl ⟨by rfl, fun _ _ => by kernel_rfl⟩) h1 ?_
                (try simp only [List.getElem_toArray, List.getElem_cons_zero, List.getElem_cons_succ, Act.put, List.setIfInBounds_toArray, List.set_cons_zero, List.set_cons_succ])
                refine wpAnyH_take (i := 14) (v := .pointer (some ⟨w.heap.size, 2, none⟩)) rfl (by kernel_rfl) (by kernel_rfl) (by kernel_rfl) (fun _ _ _ h => h) (.inl ⟨by rfl, fun _ _ => by kernel_rfl⟩) h1 ?_
                (try simp only [List.getElem_toArray, List.getElem_cons_zero, List.getElem_cons_succ, Act.put, List.setIfInBounds_toArray, List.set_cons_zero, List.set_cons_succ])
                refine wpAnyH_take (i := 15) (v := .int .i64 tp) rfl (by kernel_rfl) (by kernel_rfl) (by kernel_rfl) (fun _ _ _ h => h) (yieldsIf_loadP (by rfl) _ rfl rfl (fun _ q => load_i64 ((HCW.out.below q HCW.out.lt).cell 2))) h1 ?_
                (try simp only [List.getElem_toArray, List.getElem_cons_zero, List.getElem_cons_succ, Act.put, List.setIfInBounds_toArray, List.set_cons_zero, List.set_cons_succ])
                refine wpAnyH_take (i := 16) (v := .pointer (some ⟨w.heap.size, 0, none⟩)) rfl (by kernel_rfl) (by kernel_rfl) (by kernel_rfl) (fun _ _ _ h => h) (.inl ⟨by rfl, fun _ _ => by kernel_rfl⟩) h1 ?_
                (try simp only [List.getElem_toArray, List.getElem_cons_zero, List.getElem_cons_succ, Act.put, List.setIfInBounds_toArray, List.set_cons_zero, List.set_cons_succ])
                refine wpAnyH_take (i := 17) (v := .slice (some ⟨b, o, none⟩) n c) rfl (by kernel_rfl) (by kernel_rfl) (by kernel_rfl) (fun _ _ _ h => h) (yieldsIf_loadP (by rfl) _ rfl rfl (fun _ q => load_nodes ((HCW.out.below q HCW.out.lt).cell 0))) h1 ?_
                (try simp only [List.getElem_toArray, List.getElem_cons_zero, List.getElem_cons_succ, Act.put, List.setIfInBounds_toArray, List.set_cons_zero, List.set_cons_succ])
                refine wpAnyH_take (i := 18) (v := .pointer (some ⟨w.heap.size, 1, none⟩)) rfl (by kernel_rfl) (by kernel_rfl) (by kernel_rfl) (fun _ _ _ h => h) (.inl ⟨by rfl, fun _ _ => by kernel_rfl⟩) h1 ?_
                (try simp only [List.getElem_toArray, List.getElem_cons_zero, List.getElem_cons_succ, Act.put, List.setIfInBounds_toArray, List.set_cons_zero, List.set_cons_succ])
                refine wpAnyH_take (i := 19) (v := .int .i64 (k : Int)) rfl (by kernel_rfl) (by kernel_rfl) (by kernel_rfl) (fun _ _ _ h => h) (yieldsIf_loadP (by rfl) _ rfl rfl (fun _ q => load_i64 ((HCW.out.below q HCW.out.lt).cell 1))) h1 ?_
                (try simp only [List.getElem_toArray, List.getElem_cons_zero, List.getElem_cons_succ, Act.put, List.setIfInBounds_toArray, List.set_cons_zero, List.set_cons_succ])
                refine wpAnyH_take (i := 20) (v := .pointer (some ⟨b, o + k * 7, none⟩)) rfl (by kernel_rfl) (by kernel_rfl) (by kernel_rfl) (fun _ _ _ h => h) (yieldsIf_index Try.underlying22 sz_node (by rfl) _ _ rfl rfl rfl hkn) h1 ?_
                (try simp only [List.getElem_toArray, List.getElem_cons_zero, List.getElem_cons_succ, Act.put, List.setIfInBounds_toArray, List.set_cons_zero, List.set_cons_succ])
                refine wpAnyH_take (i := 21) (v := .pointer (some ⟨b, o + k * 7 + 3, none⟩)) rfl (by kernel_rfl) (by kernel_rfl) (by kernel_rfl) (fun _ _ _ h => h) (.inl ⟨by rfl, fun _ _ => by kernel_rfl⟩) h1 ?_
                (try simp only [List.getElem_toArray, List.getElem_cons_zero, List.getElem_cons_succ, Act.put, List.setIfInBounds_toArray, List.set_cons_zero, List.set_cons_succ])
                refine wpAnyH_take (i := 22) (v := .int .i64 lev) rfl (by kernel_rfl) (by kernel_rfl) (by kernel_rfl) (fun _ _ _ h => h) (yieldsIf_loadP (by rfl) _ rfl rfl (fun _ q => load_i64 (HLV.out _ q))) h1 ?_
                (try simp only [List.getElem_toArray, List.getElem_cons_zero, List.getElem_cons_succ, Act.put, List.setIfInBounds_toArray, List.set_cons_zero, List.set_cons_succ])
                refine wpAnyH_take (i := 23) (v := .bool false) rfl (by kernel_rfl) (by kernel_rfl) (by kernel_rfl) (fun _ _ _ h => h) (yieldsIf_gtrR (by rfl) _ _ rfl rfl rfl e6) h1 ?_
                (try simp only [List.getElem_toArray, List.getElem_cons_zero, List.getElem_cons_succ, Act.put, List.setIfInBounds_toArray, List.set_cons_zero, List.set_cons_succ])
                refine wpAnyH_take (i := 24) (v := .bool false) rfl (by kernel_rfl) (by kernel_rfl) (by kernel_rfl) (fun _ _ _ h => h) (.inl ⟨by rfl, fun _ _ => by kernel_rfl⟩) h1 ?_
                (try simp only [List.getElem_toArray, List.getElem_cons_zero, List.getElem_cons_succ, Act.put, List.setIfInBounds_toArray, List.set_cons_zero, List.set_cons_succ])
                refine wpAnyH_take (i := 25) (v := .bool false) rfl (by kernel_rfl) (by kernel_rfl) (by kernel_rfl) (fun _ _ _ h => h) (.inl ⟨by rfl, fun _ _ => by kernel_rfl⟩) h1 ?_
                (try simp only [List.getElem_toArray, List.getElem_cons_zero, List.getElem_cons_succ, Act.put, List.setIfInBounds_toArray, List.set_cons_zero, List.set_cons_succ])
                refine wpAnyH_done (by kernel_rfl) ?_ _
                have HBN := Lib.hid h1
                clear h1
                go_wp2_with fail
                go_ret
                exact ⟨by rw [HV.out]; rfl, HB.out.trans ((hb.out.trans (HBN.out.mono hb.out.size)).mono HB.out.size)⟩
end Go.Proofs.Ytbpcddimnbjoeaa
