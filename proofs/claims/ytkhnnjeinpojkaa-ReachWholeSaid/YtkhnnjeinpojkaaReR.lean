/- Reach: ReachWhole, walked. Printed by genReR.py. -/
import Derived.Test.YtkhnnjeinpojkaaReP
import Derived.Test.YtkhnnjeinpojkaaReQ
namespace Go.Proofs.Ytkhnnjeinpojkaa
open Go.RowKit Go.Maps Go.ChangeMaps Go.MapKept
theorem ls_len {w : World} {B n c : Nat} {A : Option Addr} {ns : List ND} (h : PgAt w B A n c ns) : ∀ k, k < ns.length → (nAt ns k).ls.length = (nAt ns k).ln := fun k hk => by
  rw [nAt, List.getD_eq_getElem?_getD, List.getElem?_eq_getElem hk]
  exact (h.2.2.2 _ (List.getElem_mem hk)).len
theorem flat_take {G : List (List Int)} {j : Nat} {F : List Int} (h : G[j]? = some F) : (G.take (j + 1)).flatten = (G.take j).flatten ++ F := by
  rw [List.take_add_one, h]
  simp
theorem flat_pre {G : List (List Int)} {j i : Nat} {F : List Int} (h : G[j]? = some F) (hi : i < F.length) (hn : G.flatten.Nodup) : hasI ((G.take j).flatten ++ F.take i) (ig F i) = false ∧ ig F i ∈ G.flatten ∧ ((G.take j).flatten ++ F.take i).length < G.flatten.length := by
  have e : G.flatten = ((G.take j).flatten ++ F.take i) ++ (ig F i :: (F.drop (i + 1) ++ (G.drop (j + 1)).flatten)) := by
    have h1 : G = G.take (j + 1) ++ G.drop (j + 1) := (List.take_append_drop _ _).symm
    have h2 : F = F.take i ++ ig F i :: F.drop (i + 1) := by
      have := (List.take_append_drop i F).symm
      rw [List.drop_eq_getElem_cons hi] at this
      rw [ig, List.getD_eq_getElem?_getD, List.getElem?_eq_getElem hi]
      exact this
    calc G.flatten = (G.take (j + 1) ++ G.drop (j + 1)).flatten := by rw [← h1]
      _ = (G.take j).flatten ++ F ++ (G.drop (j + 1)).flatten := by rw [List.flatten_append, flat_take h]
      _ = (G.take j).flatten ++ (F.take i ++ ig F i :: F.drop (i + 1)) ++ (G.drop (j + 1)).flatten := by rw [← h2]
      _ = _ := by simp
  rw [e] at hn
  refine ⟨?_, by rw [e]; simp, by rw [e]; generalize (G.take j).flatten ++ F.take i = P; simp only [List.length_append, List.length_cons]; omega⟩
  cases q : hasI ((G.take j).flatten ++ F.take i) (ig F i) with
  | false => rfl
  | true => exact absurd rfl ((List.nodup_append.1 hn).2.2 _ (hasI_iff.1 q) _ List.mem_cons_self)
set_option maxRecDepth 100000 in
set_option maxHeartbeats 8000000 in
theorem whole16 (A : Option Addr) (n c : Nat) (ns : List ND) (en tp links a b cc level : Int) (w : World) (hg : PgRaw w w.heap.size A n c ns)
    (ha : (Lit.int .i64 a).wf = true) (hb : (Lit.int .i64 b).wf = true) (hcc : (Lit.int .i64 cc).wf = true) :
    Calls Try.prog 9 #[.agg (pgL A n c en tp), .int .i64 links, .int .i64 a, .int .i64 b, .int .i64 cc, .int .i64 level] w (RetB true w) := by
  obtain ⟨w1, hw1⟩ : ∃ x, w.alloc (.cells (pgL A n c en tp) 56) = x := ⟨_, rfl⟩
  obtain ⟨C1, b1⟩ := box_plane hw1
  have HR := Lib.hid ((hg.below b1).more b1.size)
  have HB := Lib.hid b1
  have HC1 := Lib.hid C1
  have HLV := Lib.hid (lives16 w1)
  have HWA := Lib.hid (And.intro ha (And.intro hb hcc))
  obtain ⟨sm, hsm⟩ : ∃ sm, smB ns = sm := ⟨_, rfl⟩
  have HSB := Lib.hid hsm
  clear hg C1 b1 ha hb hcc hsm
  unfold pgL at hw1 ⊢
  go_enter Try.func9, Try.ntmps9
  go_upto_region 1 with fail
  (try rw [hw1])
  clear hw1
  go_upto_region 3 with (go_at_call 51; (with_reducible refine HLV.out.mono ?_); rintro e w2 ⟨rfl, b2⟩; have HB2 := Lib.hid (HB.out.trans (b2.mono HB.out.size)); have HC2 := Lib.hid (HC1.out.below b2 HC1.out.lt); have HR2 := Lib.hid ((HR.out.below b2).more b2.size); clear b2)
  have LP := plane_load HC2.out
  have HSM := small12 A n c ns en tp w2 HR2.out
  rw [HSB.out] at HSM
  unfold pgL at LP HSM
  clear HLV HR HC1 HB
  cases sm with
  | false =>
    have HSM' : Hid (Calls Try.prog 20 #[.agg #[.slice A n c, .int .i64 en, .int .i64 tp]] w2 (RetZ 0 w2)) := HSM
    clear HSM
    go_wp2_with (first
      | ((with_reducible refine wpList_loadE (op := ⟨some 31, _, _, _, _, _⟩) LP ?leX ?leG ?leO ?leE ?_); (case leO => exact rfl); (case leE => exact rfl); (case leG => exact rfl))
      | (go_at_call 20; (with_reducible refine HSM'.out.mono ?_); rintro e w3 ⟨rfl, b3⟩; have HB3 := Lib.hid (HB2.out.trans (b3.mono HB2.out.size)); clear b3))
    go_ret
    exact ⟨rfl, HB3.out⟩
  | true =>
    have HSM' : Hid (Calls Try.prog 20 #[.agg #[.slice A n c, .int .i64 en, .int .i64 tp]] w2 (RetZ 1 w2)) := HSM
    clear HSM
    have hnl : ns.length ≤ 20 := by
      have h1 := HSB.out
      unfold smB at h1
      rw [Bool.and_eq_true, decide_eq_true_eq] at h1
      exact h1.1
    have HQ3 : Hid ((1 + ns.length) + ns.length * (1 + ns.length) ≤ 1048576) := sq_le (by omega) (by decide)
    have HQ4 : Hid (1 + ns.length * (1 + ns.length) ≤ 1048576) := sq_le2 (by omega) (by decide)
    have HN : Hid (ns.length ≤ 1000) := by show _ ≤ _; omega
    go_upto_region 5 with (first
      | ((with_reducible refine wpList_loadE (op := ⟨some 31, _, _, _, _, _⟩) LP ?lfX ?lfG ?lfO ?lfE ?_); (case lfO => exact rfl); (case lfE => exact rfl); (case lfG => exact rfl))
      | (go_at_call 20; (with_reducible refine HSM'.out.mono ?_); rintro e w3 ⟨rfl, b3⟩; have HB3 := Lib.hid (HB2.out.trans (b3.mono HB2.out.size)); have HG3 := Lib.hid ((HR2.out.at_ HSB.out).on b3 b3.size); have HC3 := Lib.hid (HC2.out.below b3 HC2.out.lt); clear b3))
    clear LP HSM' HC2 HR2 HB2 HSB
    have HL := Lib.hid HG3.out.len
    have HCP := pl_steps ns.length A n c ns en tp a b level w3 HG3.out HWA.out.1 (fun s => near_le ns s level) HQ4.out
    have LP := plane_load HC3.out
    unfold pgL at LP HCP
    replace HCP := Lib.hid HCP
    go_upto_region 6 with (first
      | ((with_reducible refine wpList_loadE (op := ⟨some 35, _, _, _, _, _⟩) LP ?m4X ?m4G ?m4O ?m4E ?_); (case m4O => exact rfl); (case m4E => exact rfl); (case m4G => exact rfl))
      | (go_at_call 52; (with_reducible refine HCP.out.mono ?_); rintro e w4 ⟨x, is1, rfl, hst, bz⟩; have HS4 := Lib.hid hst; have HB4 := Lib.hid (HB3.out.trans (bz.mono HB3.out.size)); have HG4 := Lib.hid (HG3.out.on bz bz.size); have HC4 := Lib.hid (HC3.out.below bz HC3.out.lt); clear bz hst))
    clear LP HCP HG3 HC3 HB3
    have HCP := pl_steps ns.length A n c ns en tp b cc level w4 HG4.out HWA.out.2.1 (fun s => near_le ns s level) HQ4.out
    have LP := plane_load HC4.out
    unfold pgL at LP HCP
    replace HCP := Lib.hid HCP
    go_upto_region 7 with (first
      | ((with_reducible refine wpList_loadE (op := ⟨some 43, _, _, _, _, _⟩) LP ?m5X ?m5G ?m5O ?m5E ?_); (case m5O => exact rfl); (case m5E => exact rfl); (case m5G => exact rfl))
      | (go_at_call 52; (with_reducible refine HCP.out.mono ?_); rintro e w5 ⟨y, is2, rfl, hst, bz⟩; have HS5 := Lib.hid hst; have HB5 := Lib.hid (HB4.out.trans (bz.mono HB4.out.size)); have HG5 := Lib.hid (HG4.out.on bz bz.size); have HC5 := Lib.hid (HC4.out.below bz HC4.out.lt); clear bz hst))
    clear LP HCP HG4 HC4 HB4
    have HCP := pl_steps ns.length A n c ns en tp a cc level w5 HG5.out HWA.out.1 (fun s => near_le ns s level) HQ4.out
    have LP := plane_load HC5.out
    unfold pgL at LP HCP
    replace HCP := Lib.hid HCP
    go_upto_region 8 with (first
      | ((with_reducible refine wpList_loadE (op := ⟨some 51, _, _, _, _, _⟩) LP ?m6X ?m6G ?m6O ?m6E ?_); (case m6O => exact rfl); (case m6E => exact rfl); (case m6G => exact rfl))
      | (go_at_call 52; (with_reducible refine HCP.out.mono ?_); rintro e w6 ⟨z, is3, rfl, hst, bz⟩; have HS6 := Lib.hid hst; have HB6 := Lib.hid (HB5.out.trans (bz.mono HB5.out.size)); have HG6 := Lib.hid (HG5.out.on bz bz.size); have HC6 := Lib.hid (HC5.out.below bz HC5.out.lt); clear bz hst))
    clear LP HCP HG5 HC5 HB5
    have HXY : Hid ((0 ≤ x ∧ x ≤ ns.length) ∧ (0 ≤ y ∧ y ≤ ns.length) ∧ (0 ≤ z ∧ z ≤ ns.length)) := ⟨HS4.out.le, HS5.out.le, HS6.out.le⟩
    obtain ⟨hx1, hx2⟩ := HXY.out.1
    obtain ⟨hy1, hy2⟩ := HXY.out.2.1
    have hnn : ns.length = n := HL.out
    have HFM := HG6.out.2.1
    go_cut [95] from 58 to 95 (fun s95 wx => s95 = .bool false ∧ Hid (Below w6.heap.size w6 wx))
    case first =>
      have c0 : w6.cell? ⟨w.heap.size, 0, none⟩ = some (.slice A n c) := HC6.out.cell 0
      cases is1 with
      | false =>
        go_wp2_with fail
        go_meet
        exact ⟨rfl, Lib.hid (Below.refl _ _)⟩
      | true =>
        have HHB := Lib.hid HS4.out.from_
        have hx3 : (decide (x > (n : Int))) = false := decide_eq_false (by omega)
        have LP := plane_load HC6.out
        obtain ⟨Y, hY⟩ : ∃ q, w6.alloc (.cells #[.int .i64 a] 3) = q := ⟨_, rfl⟩
        have bY : Below w6.heap.size w6 Y := by rw [← hY]; exact bel_box _ _
        have hRY : Rd Y Y.heap.size (some ⟨w6.heap.size, 0, none⟩) 1 ([a].map (.int .i64)) := by rw [← hY]; exact rd_one _ _
        have HFR := pl_from ns.length A n c ns en tp level (some ⟨w6.heap.size, 0, none⟩) 1 1 [a] Y (HG6.out.on bY bY.size) hRY (by intro q hq; rw [List.mem_singleton] at hq; subst hq; exact HWA.out.1) (fun s => near_le ns s level) HQ4.out
        have HFL := fromI_le ns level [a]
        obtain ⟨F, hF⟩ : ∃ F, fromI ns level [a] = F := ⟨_, rfl⟩
        rw [hF] at HFR HHB HFL
        unfold pgL at LP HFR
        replace HFR := Lib.hid HFR
        have HBY := Lib.hid bY
        clear bY hRY hF
        cases is2 with
        | false =>
          go_wp2_with (first
            | ((with_reducible refine wpList_loadG (op := ⟨some 86, _, _, _, _, _⟩) LP ?lgX ?lgW ?lgO ?lgE ?_); (case lgO => exact rfl); (case lgE => exact rfl); (case lgW => kernel_rfl))
            | (go_at_call 54; (try rw [hY]); (with_reducible refine HFR.out.mono ?_); rintro e w7 ⟨A7, n7, c7, rfl, ho7, b7⟩; have HO7 := Lib.hid ho7; have HB7 := Lib.hid (HBY.out.trans (b7.mono HBY.out.size)); have HHS := eg_has A7 n7 c7 F b w7 ho7.rd (by have := ho7.len; omega); rw [HHB.out] at HHS; replace HHS := Lib.hid HHS; clear ho7 b7)
            | (go_at_call 36; (with_reducible refine HHS.out.mono ?_); rintro e w8 ⟨rfl, rfl⟩))
          go_meet
          exact ⟨rfl, HB7⟩
        | true =>
          obtain ⟨rfl, hzz⟩ := StR.add HS4.out HS5.out HS6.out
          have hz3 : (decide (z > x + y)) = false := decide_eq_false (by omega)
          go_wp2_with (first
            | ((with_reducible refine wpList_loadG (op := ⟨some 86, _, _, _, _, _⟩) LP ?lhX ?lhW ?lhO ?lhE ?_); (case lhO => exact rfl); (case lhE => exact rfl); (case lhW => kernel_rfl))
            | (go_at_call 54; (try rw [hY]); (with_reducible refine HFR.out.mono ?_); rintro e w7 ⟨A7, n7, c7, rfl, ho7, b7⟩; have HO7 := Lib.hid ho7; have HB7 := Lib.hid (HBY.out.trans (b7.mono HBY.out.size)); have HHS := eg_has A7 n7 c7 F b w7 ho7.rd (by have := ho7.len; omega); rw [HHB.out] at HHS; replace HHS := Lib.hid HHS; clear ho7 b7)
            | (go_at_call 36; (with_reducible refine HHS.out.mono ?_); rintro e w8 ⟨rfl, rfl⟩))
          go_meet
          exact ⟨rfl, HB7⟩
    case rest =>
      obtain ⟨rfl, hbc⟩ := hcut
      have HBc : Hid (Below w.heap.size w wc) := HB6.out.trans (hbc.out.mono HB6.out.size)
      have HGc := Lib.hid (HG6.out.on hbc.out hbc.out.size)
      have HCc := Lib.hid (HC6.out.below hbc.out HC6.out.lt)
      have HCK := pl_check A n c ns en tp links wc HGc.out
      have LP := plane_load HCc.out
      have HLN := Lib.hid (ls_len HGc.out)
      clear hbc HG6 HC6 HB6
      cases hck : chkB ns links en tp with
      | false =>
        rw [chkW_no hck] at HCK
        unfold pgL at LP HCK
        replace HCK := Lib.hid HCK
        clear hck
        go_wp2_with (first
          | ((with_reducible refine wpList_loadE (op := ⟨some 96, _, _, _, _, _⟩) LP ?y1X ?y1G ?y1O ?y1E ?_); (case y1O => exact rfl); (case y1E => exact rfl); (case y1G => exact rfl))
          | (go_at_call 22; (with_reducible refine HCK.out.mono ?_); rintro e w7 ⟨rfl, b7⟩; have HB7 := Lib.hid (HBc.out.trans (b7.mono HBc.out.size)); clear b7))
        go_ret
        exact ⟨rfl, HB7.out⟩
      | true =>
        have HRT := Lib.hid (right_of hck)
        rw [chkW_yes hck] at HCK
        unfold pgL at LP HCK
        replace HCK := Lib.hid HCK
        clear hck
        go_upto_region 13 with (first
          | ((with_reducible refine wpList_loadE (op := ⟨some 96, _, _, _, _, _⟩) LP ?y2X ?y2G ?y2O ?y2E ?_); (case y2O => exact rfl); (case y2E => exact rfl); (case y2G => exact rfl))
          | (go_at_call 22; (with_reducible refine HCK.out.mono ?_); rintro e w7 ⟨rfl, b7⟩; have HB7 := Lib.hid (HBc.out.trans (b7.mono HBc.out.size)); have HG7 := Lib.hid (HGc.out.on b7 b7.size); have HC7 := Lib.hid (HCc.out.below b7 HCc.out.lt); clear b7))
        clear LP HCK HGc HCc HBc
        have LP := plane_load HC7.out
        have HLV := pl_live A n c ns en tp w7 HG7.out
        unfold pgL at LP HLV
        replace HLV := Lib.hid HLV
        go_wp2_with (first
          | ((with_reducible refine wpList_loadE (op := ⟨some 100, _, _, _, _, _⟩) LP ?y3X ?y3G ?y3O ?y3E ?_); (case y3O => exact rfl); (case y3E => exact rfl); (case y3G => exact rfl))
          | (go_at_call 27; (with_reducible refine HLV.out.mono ?_); rintro e w8 ⟨A8, n8, c8, rfl, ho8, b8⟩; have HO8 := Lib.hid ho8; have HB8 := Lib.hid (HB7.out.trans (b8.mono HB7.out.size)); have HG8 := Lib.hid (HG7.out.on b8 b8.size); have HC8 := Lib.hid (HC7.out.below b8 HC7.out.lt); clear ho8 b8))
        clear LP HLV HG7 HC7 HB7
        have hlv := liveI_le ns
        have HGG := Lib.hid (HRT.out.groups HLN.out level)
        obtain ⟨q, hq⟩ : ∃ q : Int → Bool, (fun s => decide (level ≤ (nAt ns s.toNat).level)) = q := ⟨_, rfl⟩
        have HQE : Hid (∀ s, q s = decide (level ≤ (nAt ns s.toNat).level)) := fun s => by rw [← hq]
        rw [hq] at HGG
        obtain ⟨L, hL⟩ : ∃ L, liveI ns = L := ⟨_, rfl⟩
        have HLL : Hid (∀ x ∈ L, x ∈ liveI ns) := fun x hx => by rw [hL]; exact hx
        rw [hL] at HO8 hlv HGG
        have hm8 := HO8.out.len
        have HR8 := Lib.hid HO8.out.rd
        clear HO8 hL hq
        have hnn8 : n ≤ 20 := by omega
        go_loopw [19, 21, 103] (fun s19 _ s103 wr => ∃ (j k : Nat), j ≤ n8 ∧ k ≤ j ∧ s103 = .int .i64 j ∧ s19 = .int .i64 k ∧ Hid (((L.take j).filter q).length = k) ∧ Hid (Below w8.heap.size w8 wr)) (fun _ _ s103 _ => n8 - (intOf s103).toNat)
        case atStart => exact ⟨0, 0, Nat.zero_le _, Nat.zero_le _, rfl, rfl, Lib.hid (by show _ = _; simp), Lib.hid (Below.refl _ _)⟩
        case round =>
          obtain ⟨j, k, hj, hkj, rfl, rfl, hcn, hbr⟩ := hrel
          have hsr := hbr.out.size
          by_cases hlt : j < n8
          · obtain ⟨lb, lo, rfl, hlb, hx0⟩ := rd_ig HR8.out hlt
            have hx4 : wr.cell? ⟨lb, lo + j, none⟩ = some (.int .i64 (ig L j)) := (hbr.out.cell (p := ⟨lb, lo + j, none⟩) hlb).trans hx0
            have hxj : j < L.length := by omega
            have HFT := filt_take (q := q) hxj
            obtain ⟨m, hxm, hmt, hml⟩ := live_nat (HLL.out _ (ig_mem hxj))
            obtain ⟨s, hs⟩ : ∃ s, ig L j = s := ⟨_, rfl⟩
            rw [hs] at hx4 HFT hxm
            obtain rfl : s = (m : Int) := hxm
            have hmn : m < n := by omega
            have HGW := HG8.out.on hbr.out hsr
            obtain ⟨pb, po, rfl, HY⟩ := HGW.levY hmn
            have z3 := HY.out wr (Below.refl _ _)
            have z0 : wr.cell? ⟨w.heap.size, 0, none⟩ = some (.slice (some ⟨pb, po, none⟩) n c) := (HC8.out.below hbr.out HC8.out.lt).cell 0
            have hqm := HQE.out (m : Int)
            rw [Int.toNat_natCast] at hqm
            obtain ⟨l, hl⟩ : ∃ l, (nAt ns m).level = l := ⟨_, rfl⟩
            rw [hl] at z3 hqm
            rw [hqm] at HFT
            clear hl HY HGW hs hx0 hmt hqm
            cases hlw : decide (level ≤ l) with
            | true =>
              rw [hlw] at HFT
              have HNX : Hid (((L.take (j + 1)).filter q).length = k + 1) := by
                show _ = _
                rw [HFT, List.length_append, hcn.out]; rfl
              clear HFT hcn
              go_wp2_with fail
              go_roundw
              case rel => exact ⟨j + 1, k + 1, by omega, by omega, by go_num, by go_num, HNX, hbr⟩
              case measure => simp [intOf]; omega
            | false =>
              rw [hlw] at HFT
              have HNX : Hid (((L.take (j + 1)).filter q).length = k) := by
                show _ = _
                rw [HFT, List.length_append, hcn.out]; rfl
              clear HFT hcn
              go_wp2_with fail
              go_roundw
              case rel => exact ⟨j + 1, k, by omega, by omega, by go_num, rfl, HNX, hbr⟩
              case measure => simp [intOf]; omega
          · obtain rfl : j = n8 := by omega
            have hcn' := hcn.out
            rw [List.take_of_length_le (by omega)] at hcn'
            have HGL : Hid ((grpI ns level).flatten.length = k) := HGG.out.2.2.trans hcn'
            have HB9 : Hid (Below w.heap.size w wr) := HB8.out.trans (hbr.out.mono HB8.out.size)
            have HG9 := Lib.hid (HG8.out.on hbr.out hsr)
            have HC9 := Lib.hid (HC8.out.below hbr.out HC8.out.lt)
            clear hcn hcn' hbr HR8 HG8 HC8 HB8 hsr
            obtain ⟨W9, hW9⟩ : ∃ q : World, wr = q := ⟨_, rfl⟩
            rw [hW9] at HB9 HG9 HC9 ⊢
            clear hW9
            go_upto_region 20 with fail
            have LP := plane_load HC9.out
            have HGP := pl_groups ns.length A n c ns en tp level W9 HG9.out (fun s => near_le ns s level) HQ4.out HN.out
            unfold pgL at LP HGP
            replace HGP := Lib.hid HGP
            go_wp2_with (first
              | ((with_reducible refine wpList_loadE (op := ⟨some 118, _, _, _, _, _⟩) LP ?y4X ?y4G ?y4O ?y4E ?_); (case y4O => exact rfl); (case y4E => exact rfl); (case y4G => exact rfl))
              | (go_at_call 57; (with_reducible refine HGP.out.mono ?_); rintro e w10 ⟨A10, n10, c10, is, rfl, hr10, hl10, he10, b10⟩; have HR10 := Lib.hid hr10; have HI10 := Lib.hid hl10; have HE10 := Lib.hid he10; have HB10 := Lib.hid (HB9.out.trans (b10.mono HB9.out.size)); have HG10 := Lib.hid (HG9.out.on b10 b10.size); have HC10 := Lib.hid (HC9.out.below b10 HC9.out.lt); clear hr10 hl10 he10 b10))
            clear LP HGP HG9 HC9 HB9
            obtain ⟨G, hG⟩ : ∃ G, grpI ns level = G := ⟨_, rfl⟩
            rw [hG] at HE10 HGL HGG
            have hl10 : is.length = n10 := by simpa using HR10.out.len
            have hg10 : G.length = n10 := by rw [← HE10.out, List.length_map]; exact hl10
            have hgn : n10 ≤ 20 := by have := grp_le ns level; rw [hG] at this; omega
            clear hG
            have hk20 : k ≤ 20 := by omega
            go_loopw [22, 24, 26, 122] (fun s22 _ _ s122 wr => ∃ (j m' : Nat) (A' : Option Addr) (c' : Nat), j ≤ n10 ∧ s122 = .int .i64 j ∧ s22 = .slice A' m' c' ∧ Hid (OwnI wr w10.heap.size A' m' c' (G.take j).flatten) ∧ Hid (Below w10.heap.size w10 wr)) (fun _ _ _ s122 _ => n10 - (intOf s122).toNat)
            case atStart => exact ⟨0, 0, none, 0, Nat.zero_le _, rfl, rfl, Lib.hid (by exact OwnI.nil_ _ _), Lib.hid (Below.refl _ _)⟩
            case round =>
              obtain ⟨j, m', A', c', hj, rfl, rfl, ho, hbr⟩ := hrel
              have hsr := hbr.out.size
              by_cases hlt : j < n10
              · obtain ⟨b1, o1, u, rfl, hb1, hu, hc1⟩ := HR10.out.at_ hlt
                rw [List.getElem?_map] at hu
                obtain ⟨⟨A3, n3, c3, F⟩, hi3, rfl⟩ := Option.map_eq_some_iff.1 hu
                have hI3 := HI10.out _ (List.mem_of_getElem? hi3)
                have hGj : G[j]? = some F := by rw [← HE10.out, List.getElem?_map, hi3]; rfl
                have HGJ := Lib.hid hGj
                have hx5 : wr.cell? ⟨b1, o1 + j, none⟩ = some (.slice A3 n3 c3) := (hbr.out.cell (p := ⟨b1, o1 + j, none⟩) hb1).trans hc1
                have HR3 : Hid (Rd w10 w10.heap.size A3 n3 (F.map (.int .i64))) := hI3.2.2.1
                have hn3 : F.length = n3 := HR3.out.lenI
                have hn20 : n3 ≤ 20 := by
                  have h1 := (flat_take (G := G) hGj)
                  have h2 : ((G.take (j + 1)).flatten).length ≤ G.flatten.length := by
                    have h3 : G.flatten = (G.take (j + 1)).flatten ++ (G.drop (j + 1)).flatten := by rw [← List.flatten_append, List.take_append_drop]
                    rw [h3, List.length_append]; omega
                  rw [h1, List.length_append] at h2
                  have h4 := HGL.out
                  omega
                clear hI3 hi3 hu hc1 hGj
                go_upto_region 24 with fail
                obtain ⟨wo, hwo⟩ : ∃ wo : World, wo = wr := ⟨_, rfl⟩
                go_loopw [22, 26, 128] (fun s22 _ s128 wx => ∃ (i m2 : Nat) (A2 : Option Addr) (c2 : Nat), i ≤ n3 ∧ s128 = .int .i64 i ∧ s22 = .slice A2 m2 c2 ∧ Hid (OwnI wx w10.heap.size A2 m2 c2 ((G.take j).flatten ++ F.take i)) ∧ Hid (Below w10.heap.size w10 wx)) (fun _ _ s128 _ => n3 - (intOf s128).toNat)
                case atStart => exact ⟨0, m', A', c', Nat.zero_le _, rfl, rfl, Lib.hid (by show OwnI _ _ _ _ _ _; simpa using ho.out), hbr⟩
                case round =>
                  clear hwo hsr hx5 ho hbr
                  obtain ⟨i, m2, A2, c2, hi, rfl, rfl, ho2, hb2⟩ := hrel
                  have hsy := hb2.out.size
                  by_cases hli : i < n3
                  · obtain ⟨b3, o3, rfl, hb3, hy0⟩ := rd_ig HR3.out hli
                    have hy4 : wr.cell? ⟨b3, o3 + i, none⟩ = some (.int .i64 (ig F i)) := (hb2.out.cell (p := ⟨b3, o3 + i, none⟩) hb3).trans hy0
                    obtain ⟨hp1, hp2, hp3⟩ := flat_pre HGJ.out (i := i) (by omega) HGG.out.1
                    have hth := HGG.out.2.1 _ hp2
                    have HTK := Lib.hid (take_step (zs := F) (k := i) (by omega))
                    obtain ⟨s, hs⟩ : ∃ s, ig F i = s := ⟨_, rfl⟩
                    rw [hs] at hy4 hp1 hth HTK
                    have hol := ho2.out.len
                    have hgl := HGL.out
                    have hm2 : m2 ≤ 20 := by omega
                    have HHS := eg_has A2 m2 c2 _ s wr ho2.out.rd (by omega)
                    rw [hp1] at HHS
                    replace HHS := Lib.hid HHS
                    obtain ⟨m, hxm, hmt⟩ := thB_nat_iff.1 hth.1
                    obtain rfl : s = (m : Int) := hxm
                    have hmn : m < n := by have := (thN_iff.1 hmt).2.1; omega
                    have HGW := HG10.out.on hb2.out hsy
                    obtain ⟨pb, po, rfl, HY⟩ := HGW.levY hmn
                    have z3 := HY.out wr (Below.refl _ _)
                    have z0 : wr.cell? ⟨w.heap.size, 0, none⟩ = some (.slice (some ⟨pb, po, none⟩) n c) := (HC10.out.below hb2.out HC10.out.lt).cell 0
                    have hlv2 := hth.2
                    rw [Int.toNat_natCast] at hlv2
                    obtain ⟨l, hl⟩ : ∃ l, (nAt ns m).level = l := ⟨_, rfl⟩
                    rw [hl] at z3 hlv2
                    have hlw : (decide (l < level)) = false := decide_eq_false (by omega)
                    clear hl HY HGW hs hy0 hmt hp1 hp2 hp3 hth hgl
                    go_wp2_with (first
                      | (go_at_call 36; (with_reducible refine HHS.out.mono ?_); rintro e w11 ⟨rfl, rfl⟩)
                      | (at_builtin; refine wpList_push rfl (.tmp 145) (.tmp 147) _ rfl w10.heap.size 3 .i64 8 (by decide) Try.underlying35 info_int wr A2 m2 c2 _ _ rfl ho2.out rfl (by omega) hsy ?_; intro g' c'' w12 ho12 hb12; have HO12 := Lib.hid ho12; have HB12 := Lib.hid (hb2.out.trans hb12); clear ho12 hb12))
                    have HON : Hid (OwnI w12 w10.heap.size (some ⟨g', 0, none⟩) (m2 + 1) c'' ((G.take j).flatten ++ F.take (i + 1))) := by
                      show OwnI _ _ _ _ _ _
                      rw [HTK.out, ← List.append_assoc]; exact HO12.out
                    clear ho2 hb2 HO12 HHS HTK
                    go_roundw
                    case rel => exact ⟨i + 1, m2 + 1, some ⟨g', 0, none⟩, c'', by omega, by go_num, rfl, HON, HB12⟩
                    case measure => simp [intOf]; omega
                  · obtain rfl : i = n3 := by omega
                    have HON : Hid (OwnI wr w10.heap.size A2 m2 c2 (G.take (j + 1)).flatten) := by
                      show OwnI _ _ _ _ _ _
                      rw [flat_take HGJ.out]
                      have h1 := ho2.out
                      rwa [List.take_of_length_le (show F.length ≤ i by omega)] at h1
                    clear ho2
                    go_wp2_with fail
                    go_roundw
                    case rel => exact ⟨j + 1, m2, A2, c2, by omega, by go_num, rfl, HON, hb2⟩
                    case measure => simp [intOf]; omega
              · obtain rfl : j = n10 := by omega
                have hol := ho.out.len
                rw [List.take_of_length_le (by omega)] at hol
                obtain rfl : m' = k := by have := HGL.out; omega
                have HB11 : Hid (Below w.heap.size w wr) := HB10.out.trans (hbr.out.mono HB10.out.size)
                have HG11 := Lib.hid (HG10.out.on hbr.out hsr)
                have HC11 := Lib.hid (HC10.out.below hbr.out HC10.out.lt)
                clear ho hbr HR10 HI10 HE10 HG10 HC10 HB10 hsr hol HGL HGG HLL HQE
                have LP := plane_load HC11.out
                have HCP := pl_steps ns.length A n c ns en tp b a level wr HG11.out HWA.out.2.1 (fun s => near_le ns s level) HQ4.out
                unfold pgL at LP HCP
                replace HCP := Lib.hid HCP
                go_upto_region 32 with (first
                  | ((with_reducible refine wpList_loadE (op := ⟨some 152, _, _, _, _, _⟩) LP ?y5X ?y5G ?y5O ?y5E ?_); (case y5O => exact rfl); (case y5E => exact rfl); (case y5G => exact rfl))
                  | (go_at_call 52; (with_reducible refine HCP.out.mono ?_); rintro e w12 ⟨bk, is4, rfl, hst, bz⟩; have HS12 := Lib.hid hst; have HB12 := Lib.hid (HB11.out.trans (bz.mono HB11.out.size)); have HG12 := Lib.hid (HG11.out.on bz bz.size); have HC12 := Lib.hid (HC11.out.below bz HC11.out.lt); clear bz hst))
                clear LP HCP HG11 HC11 HB11
                have LP := plane_load HC12.out
                have HWH := pl_whole ns.length A n c ns en tp w12 HG12.out (fun s => near_le ns s 0) HQ3.out
                rw [HRT.out.whole] at HWH
                have HEQ : Hid (thB ns a = true → thB ns b = true → is4 = is1 ∧ bk = x) := fun h1 h2 => by
                  obtain ⟨e1, e2⟩ := HS12.out.uniq (HRT.out.st HLN.out h1 h2 HS4.out)
                  exact ⟨e2, e1⟩
                have HTA : Hid (∀ X s, Below w12.heap.size w12 X → Calls Try.prog 24 #[.agg (pgL A n c en tp), .int .i64 s] X (RetB (thB ns s) X)) := fun X s hX => pl_there A n c ns en tp s X (HG12.out.on hX hX.size)
                unfold pgL at LP HWH HTA
                replace HWH := Lib.hid HWH
                clear HS12 HS4 HS5 HS6 HG12 HLN HRT HXY
                cases hta : thB ns a with
                | false =>
                  have HEA : Hid (thB ns a = false) := hta
                  clear hta HEQ
                  go_wp2_with (first
                    | ((with_reducible refine wpList_loadE (op := ⟨some 159, _, _, _, _, _⟩) LP ?y6X ?y6G ?y6O ?y6E ?_); (case y6O => exact rfl); (case y6E => exact rfl); (case y6G => exact rfl))
                    | ((with_reducible refine wpList_loadG (op := ⟨some 168, _, _, _, _, _⟩) LP2 ?y7X ?y7W ?y7O ?y7E ?_); (case y7O => exact rfl); (case y7E => exact rfl); (case y7W => kernel_rfl))
                    | (go_at_call 59; (with_reducible refine HWH.out.mono ?_); rintro e w13 ⟨rfl, bz⟩; have HB13 := Lib.hid bz; have LP2 := plane_load (HC12.out.below bz HC12.out.lt); have HT1 := HTA.out w13 a bz; rw [HEA.out] at HT1; unfold pgL at LP2; replace HT1 := Lib.hid HT1; clear bz)
                    | (go_at_call 24; (with_reducible refine HT1.out.mono ?_); rintro e w14 ⟨rfl, bz⟩; have HB14 := Lib.hid (HB12.out.trans ((HB13.out.trans (bz.mono HB13.out.size)).mono HB12.out.size)); clear bz))
                  go_ret
                  exact ⟨rfl, HB14.out⟩
                | true =>
                  have HEA : Hid (thB ns a = true) := hta
                  clear hta
                  cases htb : thB ns b with
                  | false =>
                    have HEB : Hid (thB ns b = false) := htb
                    clear htb HEQ
                    go_wp2_with (first
                      | ((with_reducible refine wpList_loadE (op := ⟨some 159, _, _, _, _, _⟩) LP ?y8X ?y8G ?y8O ?y8E ?_); (case y8O => exact rfl); (case y8E => exact rfl); (case y8G => exact rfl))
                      | ((with_reducible refine wpList_loadG (op := ⟨some 168, _, _, _, _, _⟩) LP2 ?y9X ?y9W ?y9O ?y9E ?_); (case y9O => exact rfl); (case y9E => exact rfl); (case y9W => kernel_rfl))
                      | ((with_reducible refine wpList_loadG (op := ⟨some 173, _, _, _, _, _⟩) LP3 ?y10X ?y10W ?y10O ?y10E ?_); (case y10O => exact rfl); (case y10E => exact rfl); (case y10W => kernel_rfl))
                      | (go_at_call 59; (with_reducible refine HWH.out.mono ?_); rintro e w13 ⟨rfl, bz⟩; have HB13 := Lib.hid bz; have LP2 := plane_load (HC12.out.below bz HC12.out.lt); have HT1 := HTA.out w13 a bz; rw [HEA.out] at HT1; unfold pgL at LP2; replace HT1 := Lib.hid HT1; clear bz)
                      | (go_at_call 24; (with_reducible refine HT1.out.mono ?_); rintro e w14 ⟨rfl, bz⟩; have HB14 := Lib.hid (HB13.out.trans (bz.mono HB13.out.size)); have LP3 := plane_load (HC12.out.below HB14.out HC12.out.lt); have HT2 := HTA.out w14 b HB14.out; rw [HEB.out] at HT2; unfold pgL at LP3; replace HT2 := Lib.hid HT2; clear bz)
                      | (go_at_call 24; (with_reducible refine HT2.out.mono ?_); rintro e w15 ⟨rfl, bz⟩; have HB15 := Lib.hid (HB12.out.trans ((HB14.out.trans (bz.mono HB14.out.size)).mono HB12.out.size)); clear bz))
                    go_ret
                    exact ⟨rfl, HB15.out⟩
                  | true =>
                    have HEB : Hid (thB ns b = true) := htb
                    clear htb
                    obtain ⟨rfl, rfl⟩ := HEQ.out HEA.out HEB.out
                    clear HEQ
                    cases is4 with
                    | false =>
                      go_wp2_with (first
                        | ((with_reducible refine wpList_loadE (op := ⟨some 159, _, _, _, _, _⟩) LP ?y11X ?y11G ?y11O ?y11E ?_); (case y11O => exact rfl); (case y11E => exact rfl); (case y11G => exact rfl))
                        | ((with_reducible refine wpList_loadG (op := ⟨some 168, _, _, _, _, _⟩) LP2 ?y12X ?y12W ?y12O ?y12E ?_); (case y12O => exact rfl); (case y12E => exact rfl); (case y12W => kernel_rfl))
                        | ((with_reducible refine wpList_loadG (op := ⟨some 173, _, _, _, _, _⟩) LP3 ?y13X ?y13W ?y13O ?y13E ?_); (case y13O => exact rfl); (case y13E => exact rfl); (case y13W => kernel_rfl))
                        | (go_at_call 59; (with_reducible refine HWH.out.mono ?_); rintro e w13 ⟨rfl, bz⟩; have HB13 := Lib.hid bz; have LP2 := plane_load (HC12.out.below bz HC12.out.lt); have HT1 := HTA.out w13 a bz; rw [HEA.out] at HT1; unfold pgL at LP2; replace HT1 := Lib.hid HT1; clear bz)
                        | (go_at_call 24; (with_reducible refine HT1.out.mono ?_); rintro e w14 ⟨rfl, bz⟩; have HB14 := Lib.hid (HB13.out.trans (bz.mono HB13.out.size)); have LP3 := plane_load (HC12.out.below HB14.out HC12.out.lt); have HT2 := HTA.out w14 b HB14.out; rw [HEB.out] at HT2; unfold pgL at LP3; replace HT2 := Lib.hid HT2; clear bz)
                        | (go_at_call 24; (with_reducible refine HT2.out.mono ?_); rintro e w15 ⟨rfl, bz⟩; have HB15 := Lib.hid (HB12.out.trans ((HB14.out.trans (bz.mono HB14.out.size)).mono HB12.out.size)); clear bz))
                      go_ret
                      exact ⟨rfl, HB15.out⟩
                    | true =>
                      go_wp2_with (first
                        | ((with_reducible refine wpList_loadE (op := ⟨some 159, _, _, _, _, _⟩) LP ?y14X ?y14G ?y14O ?y14E ?_); (case y14O => exact rfl); (case y14E => exact rfl); (case y14G => exact rfl))
                        | ((with_reducible refine wpList_loadG (op := ⟨some 168, _, _, _, _, _⟩) LP2 ?y15X ?y15W ?y15O ?y15E ?_); (case y15O => exact rfl); (case y15E => exact rfl); (case y15W => kernel_rfl))
                        | ((with_reducible refine wpList_loadG (op := ⟨some 173, _, _, _, _, _⟩) LP3 ?y16X ?y16W ?y16O ?y16E ?_); (case y16O => exact rfl); (case y16E => exact rfl); (case y16W => kernel_rfl))
                        | (go_at_call 59; (with_reducible refine HWH.out.mono ?_); rintro e w13 ⟨rfl, bz⟩; have HB13 := Lib.hid bz; have LP2 := plane_load (HC12.out.below bz HC12.out.lt); have HT1 := HTA.out w13 a bz; rw [HEA.out] at HT1; unfold pgL at LP2; replace HT1 := Lib.hid HT1; clear bz)
                        | (go_at_call 24; (with_reducible refine HT1.out.mono ?_); rintro e w14 ⟨rfl, bz⟩; have HB14 := Lib.hid (HB13.out.trans (bz.mono HB13.out.size)); have LP3 := plane_load (HC12.out.below HB14.out HC12.out.lt); have HT2 := HTA.out w14 b HB14.out; rw [HEB.out] at HT2; unfold pgL at LP3; replace HT2 := Lib.hid HT2; clear bz)
                        | (go_at_call 24; (with_reducible refine HT2.out.mono ?_); rintro e w15 ⟨rfl, bz⟩; have HB15 := Lib.hid (HB12.out.trans ((HB14.out.trans (bz.mono HB14.out.size)).mono HB12.out.size)); clear bz))
                      go_ret
                      exact ⟨rfl, HB15.out⟩
end Go.Proofs.Ytkhnnjeinpojkaa
