/- Reach: the document's side, Groups, Whole; planes by what they are; lives. -/
import Derived.Test.YtkhnnjeinpojkaaReMa
import Derived.Test.YtkhnnjeinpojkaaPlQ
import Derived.Test.YtkhnnjeinpojkaaPmF
import Derived.Test.YtkhnnjeinpojkaaSame
import Derived.Test.YtkhnnjeinpojkaaPmK
import Derived.Great.BuildSlice
import Derived.Test.YtkhnnjeinpojkaaPmT
namespace Go.Proofs.Ytkhnnjeinpojkaa
open Go.RowKit Go.Maps Go.ChangeMaps Go.MapKept
theorem unI_with (ns : List ND) (l : List Int) {y : Int} (hy : thB ns y = true) : (withI l y).length + unI ns (withI l y) ≤ l.length + unI ns l := by
  cases h : hasI l y with
  | true => unfold withI; rw [if_pos h]; exact Nat.le_refl _
  | false =>
    have h1 : withI l y = l ++ [y] := by unfold withI; rw [if_neg (by rw [h]; decide)]
    have h2 : unI ns (withI l y) + [y].length ≤ unI ns l := unI_more (fun z hz => mem_withI.2 (.inl hz)) (by simp) fun z hz => by
      rw [List.mem_singleton] at hz; subst hz
      exact ⟨hy, mem_withI.2 (.inr rfl), fun q => by rw [hasI_iff.2 q] at h; cases h⟩
    have h3 : (withI l y).length = l.length + 1 := by rw [h1]; simp
    simp at h2; omega
theorem unI_foldWith (ns : List ND) : ∀ (L l : List Int), (∀ y ∈ L, thB ns y = true) → (L.foldl withI l).length + unI ns (L.foldl withI l) ≤ l.length + unI ns l
  | [], l, _ => Nat.le_refl _
  | y :: L, l, h => by
    rw [List.foldl_cons]
    exact Nat.le_trans (unI_foldWith ns L _ fun z hz => h z (List.mem_cons_of_mem _ hz)) (unI_with ns l (h y List.mem_cons_self))
theorem bI_len (ns : List ND) (level : Int) (xs : List Int) : ∀ k, (bI ns level xs k).length + unI ns (bI ns level xs k) ≤ xs.length + ns.length
  | 0 => Nat.add_le_add_left (unI_le ns xs) _
  | k + 1 => by
    refine Nat.le_trans ?_ (bI_len ns level xs k)
    show (stepI ns level (bI ns level xs k)).length + unI ns (stepI ns level (bI ns level xs k)) ≤ _
    rw [stepI_eq]
    refine unI_foldWith ns _ _ fun y hy => ?_
    obtain ⟨x, _, q⟩ := mem_nextI.1 hy
    exact near_there q
theorem near_wf {w : World} {B n c : Nat} {A : Option Addr} {ns : List ND} (hg : PgAt w B A n c ns) {x level y : Int} (hy : y ∈ nearI ns x level) : (Lit.int .i64 y).wf = true := wf_there hg (near_there hy)
theorem with_lenR (l : List Int) (v : Int) : (withI l v).length ≤ l.length + 1 := by unfold withI; split <;> simp

theorem rd_ig {w : World} {B n : Nat} {A : Option Addr} {xs : List Int} (h : Rd w B A n (xs.map (.int .i64))) {j : Nat} (hj : j < n) : ∃ b o, A = some ⟨b, o, none⟩ ∧ b < B ∧ w.cell? ⟨b, o + j, none⟩ = some (.int .i64 (ig xs j)) := by
  obtain ⟨b, o, e, hb, hc⟩ := h.2 (by omega)
  have hl := h.lenI
  have hxj : j < xs.length := by omega
  exact ⟨b, o, e, hb, hc j _ (by rw [List.getElem?_map, List.getElem?_eq_getElem hxj, ig, List.getD_eq_getElem?_getD, List.getElem?_eq_getElem hxj]; rfl)⟩
set_option maxRecDepth 100000 in
set_option maxHeartbeats 4000000 in
theorem rf_step (d : Nat) (A : Option Addr) (n c : Nat) (ns : List ND) (en tp level : Int) (sA : Option Addr) (sn sc : Nat) (xs : List Int) (w : World) (hg : PgAt w w.heap.size A n c ns)
    (hr : Rd w w.heap.size sA sn (xs.map (.int .i64))) (hA : sA = none → sn = 0 ∧ sc = 0) (hd : ∀ s, (nearI ns s level).length ≤ d) (hC : sn + d * sn ≤ 1048576) :
    Calls Try.prog 89 #[.agg (pgL A n c en tp), .slice sA sn sc, .int .i64 level] w (RetI (stepI ns level xs) w) := by
  obtain ⟨w1, hw1⟩ : ∃ x, w.alloc (.cells (pgL A n c en tp) 56) = x := ⟨_, rfl⟩
  obtain ⟨C1, b1⟩ := box_plane hw1
  have HG := Lib.hid (hg.on b1 b1.size)
  have HB := Lib.hid b1
  have HC := Lib.hid C1
  have HR1 := Lib.hid ((hr.below b1).more b1.size)
  have HA := Lib.hid hA
  have HDD := Lib.hid hd
  have hbl := C1.lt
  have hsl := hr.lenI
  have hsn : sn ≤ 1048576 := by omega
  clear hg C1 b1 hr hA hd
  unfold pgL at hw1 ⊢
  go_enter Try.func89, Try.ntmps89
  go_upto_region 1 with fail
  (try rw [hw1])
  clear hw1
  go_wp2_with (at_builtin; refine wpList_cloneI rfl (.tmp 12) (.tmp 13) rfl w1 sA sn sc xs rfl rfl HR1.out HA.out (by omega) ?_; intro A' c' w3 ho hb; have HO3 := Lib.hid ho; have HB3 := Lib.hid hb; clear ho hb)
  have hs1 := HB.out.size
  have hs3 := HB3.out.size
  go_loopw [7, 9, 11, 17] (fun s7 _ _ s17 wr => ∃ (j m' : Nat) (A' : Option Addr) (c' : Nat), j ≤ sn ∧ m' ≤ sn + d * j ∧ s17 = .int .i64 j ∧ s7 = .slice A' m' c' ∧ Hid (OwnI wr w1.heap.size A' m' c' ((xs.take j).foldl (fun out x => (nearI ns x level).foldl withI out) xs)) ∧ Hid (Below w1.heap.size w1 wr)) (fun _ _ _ s17 _ => sn - (intOf s17).toNat)
  case atStart => exact ⟨0, sn, A', c', Nat.zero_le _, by omega, rfl, rfl, Lib.hid (by exact HO3.out), HB3⟩
  case round =>
    obtain ⟨j, m', A1, c1, hj, hm', rfl, rfl, ho, hb⟩ := hrel
    have hsx := hb.out.size
    by_cases hlt : j < sn
    · obtain ⟨b, o, rfl, hb5, hx0⟩ := rd_ig HR1.out hlt
      have hx4 : wr.cell? ⟨b, o + j, none⟩ = some (.int .i64 (ig xs j)) := (hb.out.cell (p := ⟨b, o + j, none⟩) hb5).trans hx0
      have HFO := Lib.hid (re_fold_take (fun out x => (nearI ns x level).foldl withI out) xs (l := xs) (k := j) (by omega))
      obtain ⟨x, hx⟩ : ∃ x, ig xs j = x := ⟨_, rfl⟩
      rw [hx] at hx4 HFO
      obtain ⟨O, hO⟩ : ∃ O, (xs.take j).foldl (fun out x => (nearI ns x level).foldl withI out) xs = O := ⟨_, rfl⟩
      rw [hO] at ho HFO
      have HNR := rf_near A n c ns en tp x level wr (HG.out.on hb.out hsx)
      have hdx := HDD.out x
      obtain ⟨L, hL⟩ : ∃ L, nearI ns x level = L := ⟨_, rfl⟩
      rw [hL] at HNR hdx
      have HFO' : Hid ((xs.take (j + 1)).foldl (fun out x => (nearI ns x level).foldl withI out) xs = L.foldl withI O) := by show _ = _; rw [← hL]; exact HFO.out
      have LP := plane_load (HC.out.below hb.out hbl)
      have hmul : d * (j + 1) = d * j + d := Nat.mul_succ d j
      have hmle : d * (j + 1) ≤ d * sn := Nat.mul_le_mul_left _ hlt
      unfold pgL at LP HNR
      replace HNR := Lib.hid HNR
      clear hx hO hL HFO hx0
      go_upto_region 6 with (first
        | refine wpList_loadE LP _ rfl rfl rfl ?_
        | (go_at_call 32; (with_reducible refine HNR.out.mono ?_); rintro e w4 ⟨A4, m4, c4, rfl, ho4, b4⟩; have HO4 := Lib.hid (ho4.mono (Nat.le_refl wr.heap.size)); have HB4 := Lib.hid (hb.out.trans (b4.mono hsx)); have HOO := Lib.hid (ho.out.below b4); clear ho4 b4))
      have hm4 := HO4.out.len
      have hs4 := HB4.out.size
      have HR4 := Lib.hid HO4.out.rd
      clear LP HNR ho hb HO4
      obtain ⟨wo, hwo⟩ : ∃ wo : World, wo = wr := ⟨_, rfl⟩
      go_wp2_with fail
      go_loopw [7, 11, 26] (fun s7 _ s26 wx => ∃ (i m2 : Nat) (A2 : Option Addr) (c2 : Nat), i ≤ m4 ∧ m2 ≤ m' + i ∧ s26 = .int .i64 i ∧ s7 = .slice A2 m2 c2 ∧ Hid (OwnI wx w1.heap.size A2 m2 c2 ((L.take i).foldl withI O)) ∧ Hid (Below w4.heap.size w4 wx)) (fun _ _ s26 _ => m4 - (intOf s26).toNat)
      case atStart => exact ⟨0, m', A1, c1, Nat.zero_le _, by omega, rfl, rfl, Lib.hid (by exact HOO.out), Lib.hid (Below.refl _ _)⟩
      case round =>
        obtain ⟨i, m2, A2, c2, hi, hm2, rfl, rfl, ho2, hb2⟩ := hrel
        have hsy := hb2.out.size
        by_cases hli : i < m4
        · obtain ⟨b', o', rfl, hb6, hy0⟩ := rd_ig HR4.out hli
          have hy4 : wr.cell? ⟨b', o' + i, none⟩ = some (.int .i64 (ig L i)) := (hb2.out.cell (p := ⟨b', o' + i, none⟩) hb6).trans hy0
          have HFI := Lib.hid (re_fold_take withI O (l := L) (k := i) (by omega))
          obtain ⟨y, hy⟩ : ∃ y, ig L i = y := ⟨_, rfl⟩
          rw [hy] at hy4 HFI
          have HWT := Lib.hid (rf_with A2 m2 c2 ((L.take i).foldl withI O) y wr ho2.out.rd ho2.out.none_ (by omega))
          have hwl := with_lenR ((L.take i).foldl withI O) y
          have hol := ho2.out.len
          clear hy hy0
          go_wp2_with (go_at_call 77; (with_reducible refine HWT.out.mono ?_); rintro e w5 ⟨A5, m5, c5, rfl, ho5, b5⟩; have HO5 := Lib.hid ho5; have HB5 := Lib.hid (hb2.out.trans (b5.mono hsy)); clear ho5 b5)
          have hl5 := HO5.out.len
          have HON : Hid (OwnI w5 w1.heap.size A5 m5 c5 ((L.take (i + 1)).foldl withI O)) := by
            show OwnI _ _ _ _ _ _
            rw [HFI.out]; exact HO5.out.mono (by omega)
          clear ho2 hb2 HO5 HWT
          go_roundw
          case rel => exact ⟨i + 1, m5, A5, c5, by omega, by omega, by go_num, rfl, HON, HB5⟩
          case measure => simp [intOf]; omega
        · obtain rfl : i = m4 := by omega
          have HON : Hid (OwnI wr w1.heap.size A2 m2 c2 ((xs.take (j + 1)).foldl (fun out x => (nearI ns x level).foldl withI out) xs)) := by
            show OwnI _ _ _ _ _ _
            rw [HFO'.out]
            have h1 := ho2.out
            rwa [List.take_of_length_le (by omega)] at h1
          have HBN := Lib.hid (HB4.out.trans (hb2.out.mono hs4))
          clear ho2 hb2
          go_wp2_with fail
          go_roundw
          case rel => exact ⟨j + 1, m2, A2, c2, by omega, by omega, by go_num, rfl, HON, HBN⟩
          case measure => simp [intOf]; omega
    · obtain rfl : j = sn := by omega
      have HF : Hid (RetI (stepI ns level xs) w (.returned (.slice A1 m' c1)) wr) := by
        have h1 := ho.out
        rw [List.take_of_length_le (by omega)] at h1
        exact ⟨_, _, _, rfl, h1.mono hs1, HB.out.trans (hb.out.mono hs1)⟩
      clear ho hb
      go_wp2_with fail
      go_ret
      exact HF.out
def RetD (xs : List Int) (w : World) (e : Ending) (w' : World) : Prop := ∃ A n c, e = .returned (.slice A n c) ∧ Rd w' w'.heap.size A n (xs.map (.int .i64)) ∧ (A = none → n = 0 ∧ c = 0) ∧ Below w.heap.size w w'
set_option maxRecDepth 100000 in
set_option maxHeartbeats 4000000 in
theorem rf_all (d : Nat) (A : Option Addr) (n c : Nat) (ns : List ND) (en tp level : Int) (sA : Option Addr) (sn sc : Nat) (xs : List Int) (w : World) (hg : PgAt w w.heap.size A n c ns)
    (hr : Rd w w.heap.size sA sn (xs.map (.int .i64))) (hA : sA = none → sn = 0 ∧ sc = 0) (hd : ∀ s, (nearI ns s level).length ≤ d) (hC : (sn + ns.length) + d * (sn + ns.length) ≤ 1048576) :
    Calls Try.prog 90 #[.agg (pgL A n c en tp), .slice sA sn sc, .int .i64 level] w (RetD (clI ns level xs) w) := by
  obtain ⟨w1, hw1⟩ : ∃ x, w.alloc (.cells (pgL A n c en tp) 56) = x := ⟨_, rfl⟩
  obtain ⟨C1, b1⟩ := box_plane hw1
  have HG := Lib.hid (hg.on b1 b1.size)
  have HB := Lib.hid b1
  have HC := Lib.hid C1
  have HR1 := Lib.hid ((hr.below b1).more b1.size)
  have HA := Lib.hid hA
  have HDD := Lib.hid hd
  have HCC := Lib.hid hC
  have hbl := C1.lt
  have hsl := hr.lenI
  clear hg C1 b1 hr hA hd hC
  unfold pgL at hw1 ⊢
  go_enter Try.func90, Try.ntmps90
  go_upto_region 1 with fail
  (try rw [hw1])
  clear hw1
  go_wp2_with fail
  have hs1 := HB.out.size
  go_loopg [1, 7] (unI ns xs + 1) (fun k s1 _ wr => ∃ (i m' : Nat) (A' : Option Addr) (c' : Nat), s1 = .slice A' m' c' ∧ unI ns (bI ns level xs i) < k ∧ Hid (Rd wr wr.heap.size A' m' ((bI ns level xs i).map (.int .i64))) ∧ Hid (A' = none → m' = 0 ∧ c' = 0) ∧ Hid (Below w1.heap.size w1 wr))
  case atStart => exact ⟨0, sn, sA, sc, rfl, Nat.lt_succ_self _, Lib.hid (by exact HR1.out), HA, Lib.hid (Below.refl _ _)⟩
  case round =>
    obtain ⟨i, m', A1, c1, rfl, hk, hrd, hA1, hb⟩ := hrel
    have hsx := hb.out.size
    have hbl' := bI_len ns level xs i
    have hlm := hrd.out.lenI
    have hcc := HCC.out
    have hmle : d * m' ≤ d * (sn + ns.length) := Nat.mul_le_mul_left _ (by omega)
    have HST := rf_step d A n c ns en tp level A1 m' c1 _ wr (HG.out.on hb.out hsx) hrd.out hA1.out HDD.out (by omega)
    have LP := plane_load (HC.out.below hb.out hbl)
    have HX : Hid (stepI ns level (bI ns level xs i) = bI ns level xs (i + 1)) := rfl
    unfold pgL at LP HST
    rw [HX.out] at HST
    replace HST := Lib.hid HST
    have HLS := Lib.hid (@rI_less ns level xs i)
    have HSL := stepI_len ns level (bI ns level xs i)
    have HSS := Lib.hid (@stepI_same ns level (bI ns level xs i))
    have HCO := Lib.hid (@clI_of ns level xs i)
    rw [HX.out] at HLS HSL HSS HCO
    by_cases h0 : (bI ns level xs (i + 1)).length = m'
    · have HE : Hid (bI ns level xs i = clI ns level xs) := HCO.out (HSS.out (by omega))
      clear hbl' hcc hmle HSL HLS HSS HCO
      go_wp2_with (first
        | refine wpList_loadE LP _ rfl rfl rfl ?_
        | (go_at_call 89; (with_reducible refine HST.out.mono ?_); rintro e w5 ⟨A5, m5, c5, rfl, ho5, b5⟩; obtain rfl : m5 = m' := (by have := ho5.len; omega); have HB5 := Lib.hid b5; have HRD := Lib.hid ((hrd.out.below b5).more b5.size); clear ho5 b5))
      have hs5 := HB5.out.size
      have HF : Hid (RetD (clI ns level xs) w (.returned (.slice A1 m5 c1)) w5) := ⟨_, _, _, rfl, by rw [← HE.out]; exact HRD.out, hA1.out, HB.out.trans ((hb.out.trans (HB5.out.mono hsx)).mono hs1)⟩
      clear hrd hA1 hb
      go_ret
      exact HF.out
    · have hless := HLS.out fun e => h0 (by rw [e]; exact hlm)
      clear hbl' hcc hmle HLS HSS HCO
      go_wp2_with (first
        | refine wpList_loadE LP _ rfl rfl rfl ?_
        | (go_at_call 89; (with_reducible refine HST.out.mono ?_); rintro e w5 ⟨A5, m5, c5, rfl, ho5, b5⟩; have h5 : ((m5 : Int) == (m' : Int)) = false := beq_false_of_ne (by have := ho5.len; omega); have HB5 := Lib.hid (hb.out.trans (b5.mono hsx)); have HO5 := Lib.hid ho5; clear ho5 b5))
      have HRN := Lib.hid HO5.out.rd
      have HAN : Hid (A5 = none → m5 = 0 ∧ c5 = 0) := HO5.out.none_
      clear hrd hA1 hb HO5 HST
      go_roundg (unI ns (bI ns level xs (i + 1)) + 1)
      case rel => exact ⟨i + 1, m5, A5, c5, rfl, Nat.lt_succ_self _, HRN, HAN, HB5⟩
      case measure => omega
set_option maxRecDepth 100000 in
set_option maxHeartbeats 4000000 in
theorem rf_from (d : Nat) (A : Option Addr) (n c : Nat) (ns : List ND) (en tp level : Int) (sA : Option Addr) (sn sc : Nat) (xs : List Int) (w : World) (hg : PgAt w w.heap.size A n c ns)
    (hr : Rd w w.heap.size sA sn (xs.map (.int .i64))) (hA : sA = none → sn = 0 ∧ sc = 0) (hd : ∀ s, (nearI ns s level).length ≤ d) (hC : (sn + ns.length) + d * (sn + ns.length) ≤ 1048576) :
    Calls Try.prog 55 #[.agg (pgL A n c en tp), .slice sA sn sc, .int .i64 level] w (RetI (fromI ns level xs) w) := by
  obtain ⟨w1, hw1⟩ : ∃ x, w.alloc (.cells (pgL A n c en tp) 56) = x := ⟨_, rfl⟩
  obtain ⟨C1, b1⟩ := box_plane hw1
  have LP := plane_load C1
  have HG := Lib.hid (hg.on b1 b1.size)
  have HAL := rf_all d A n c ns en tp level sA sn sc xs w1 HG.out ((hr.below b1).more b1.size) hA hd hC
  have HB := Lib.hid b1
  have HC := Lib.hid C1
  have hbl := C1.lt
  have hsl := hr.lenI
  have hcl : (clI ns level xs).length ≤ 1048576 := by have h1 := bI_len ns level xs ns.length; unfold clI; omega
  obtain ⟨M, hM⟩ : ∃ M, clI ns level xs = M := ⟨_, rfl⟩
  have HFR : Hid (fromI ns level xs = (liveI ns).filter (hasI M)) := by show _ = _; unfold fromI; rw [hM]
  rw [hM] at HAL hcl
  clear hg C1 b1 hr hA hd hC hM
  unfold pgL at hw1 LP HAL ⊢
  replace HAL := Lib.hid HAL
  go_enter Try.func55, Try.ntmps55
  go_upto_region 1 with fail
  (try rw [hw1])
  clear hw1
  have hs1 := HB.out.size
  go_upto_region 3 with (first
    | refine wpList_loadE LP _ rfl rfl rfl ?_
    | (go_at_call 90; (with_reducible refine HAL.out.mono ?_); rintro e w2 ⟨A2, m2, c2, rfl, hr2, hA2, b2⟩; have HR2 := Lib.hid hr2; have HA2 := Lib.hid hA2; have HB2 := Lib.hid b2; clear hr2 hA2 b2))
  have LP2 := plane_load (HC.out.below HB2.out hbl)
  have HG2 := Lib.hid (HG.out.on HB2.out HB2.out.size)
  have HLV := rf_live A n c ns en tp w2 HG2.out
  unfold pgL at LP2 HLV
  replace HLV := Lib.hid HLV
  have hm2 := HR2.out.lenI
  have hs2 := HB2.out.size
  clear HAL LP HC HG
  go_wp2_with (first
    | refine wpList_loadE LP2 _ rfl rfl rfl ?_
    | (go_at_call 28; (with_reducible refine HLV.out.mono ?_); rintro e w4 ⟨A4, m4, c4, rfl, ho4, b4⟩; have HO4 := Lib.hid ho4; have HB4 := Lib.hid b4; clear ho4 b4))
  have hs4 := HB4.out.size
  have hlv := liveI_le ns
  have hnl := HG2.out.len
  have hnn := HG2.out.2.1
  obtain ⟨L, hL⟩ : ∃ L, liveI ns = L := ⟨_, rfl⟩
  rw [hL] at HO4 HFR hlv
  have hm4 := HO4.out.len
  have HR4 := Lib.hid HO4.out.rd
  have HR5 := Lib.hid ((HR2.out.below HB4.out).more hs4)
  clear HO4 LP2 HLV HG2 HR2 hL
  go_loopw [8, 10, 18] (fun s8 _ s18 wx => ∃ (j m' : Nat) (A' : Option Addr) (c' : Nat), j ≤ m4 ∧ m' ≤ j ∧ s18 = .int .i64 j ∧ s8 = .slice A' m' c' ∧ Hid (OwnI wx w4.heap.size A' m' c' ((L.take j).filter (hasI M))) ∧ Hid (Below w4.heap.size w4 wx)) (fun _ _ s18 _ => m4 - (intOf s18).toNat)
  case atStart => exact ⟨0, 0, none, 0, Nat.zero_le _, Nat.zero_le _, rfl, rfl, Lib.hid (by exact OwnI.nil_ _ _), Lib.hid (Below.refl _ _)⟩
  case round =>
    obtain ⟨j, m', A', c', hj, hm, rfl, rfl, ho, hb⟩ := hrel
    have hsx := hb.out.size
    by_cases hlt : j < m4
    · obtain ⟨b, o, rfl, hb5, hx0⟩ := rd_ig HR4.out hlt
      have hx4 : wr.cell? ⟨b, o + j, none⟩ = some (.int .i64 (ig L j)) := (hb.out.cell (p := ⟨b, o + j, none⟩) hb5).trans hx0
      have HFT := filt_take (q := hasI M) (l := L) (j := j) (by omega)
      have HH := rf_has A2 m2 c2 M (ig L j) wr ((HR5.out.below hb.out).more hsx) (by omega)
      obtain ⟨x, hx⟩ : ∃ x, ig L j = x := ⟨_, rfl⟩
      rw [hx] at hx4 HFT HH
      cases hq : hasI M x with
      | false =>
        rw [hq] at HH HFT
        replace HH := Lib.hid HH
        replace HFT := Lib.hid HFT
        clear hx hx0 hq
        go_wp2_with (go_at_call 73; (with_reducible refine HH.out.mono ?_); rintro e w5 ⟨rfl, rfl⟩)
        have HON : Hid (OwnI wr w4.heap.size A' m' c' ((L.take (j + 1)).filter (hasI M))) := by
          show OwnI _ _ _ _ _ _
          rw [HFT.out]; simpa using ho.out
        clear ho hx4 HH
        go_roundw
        case rel => exact ⟨j + 1, m', A', c', by omega, by omega, by go_num, rfl, HON, hb⟩
        case measure => simp [intOf]; omega
      | true =>
        rw [hq] at HH HFT
        replace HH := Lib.hid HH
        replace HFT := Lib.hid HFT
        clear hx hx0 hq
        go_wp2_with (first
          | (go_at_call 73; (with_reducible refine HH.out.mono ?_); rintro e w5 ⟨rfl, rfl⟩)
          | (at_builtin; refine wpList_push rfl (.tmp 25) (.tmp 27) _ rfl w4.heap.size 3 .i64 8 (by decide) Try.underlying35 info_int wr A' m' c' _ _ rfl ho.out rfl (by omega) hsx ?_; intro g' c'' w6 ho6 hb6; have HO6 := Lib.hid ho6; have HB6 := Lib.hid (hb.out.trans hb6); clear ho6 hb6))
        have HON : Hid (OwnI w6 w4.heap.size (some ⟨g', 0, none⟩) (m' + 1) c'' ((L.take (j + 1)).filter (hasI M))) := by
          show OwnI _ _ _ _ _ _
          rw [HFT.out]; exact HO6.out
        clear ho hx4 HO6 HH
        go_roundw
        case rel => exact ⟨j + 1, m' + 1, some ⟨g', 0, none⟩, c'', by omega, by omega, by go_num, rfl, HON, HB6⟩
        case measure => simp [intOf]; omega
    · obtain rfl : j = m4 := by omega
      have HF : Hid (RetI (fromI ns level xs) w (.returned (.slice A' m' c')) wr) := by
        have h1 := ho.out
        rw [List.take_of_length_le (by omega)] at h1
        refine ⟨_, _, _, rfl, by rw [HFR.out]; exact h1.mono (by omega), ?_⟩
        exact ((HB.out.trans (HB2.out.mono hs1)).trans (HB4.out.mono (by omega))).trans (hb.out.mono (by omega))
      clear ho hb
      go_wp2_with fail
      go_ret
      exact HF.out
set_option maxRecDepth 100000 in
set_option maxHeartbeats 4000000 in
theorem rf_steps (d : Nat) (A : Option Addr) (n c : Nat) (ns : List ND) (en tp a b level : Int) (w : World) (hg : PgAt w w.heap.size A n c ns)
    (hd : ∀ s, (nearI ns s level).length ≤ d) (hC : (1 + ns.length) + d * (1 + ns.length) ≤ 1048576) :
    Calls Try.prog 53 #[.agg (pgL A n c en tp), .int .i64 a, .int .i64 b, .int .i64 level] w (RetSt ns level a b w) := by
  obtain ⟨w1, hw1⟩ : ∃ x, w.alloc (.cells (pgL A n c en tp) 56) = x := ⟨_, rfl⟩
  obtain ⟨C1, b1⟩ := box_plane hw1
  have LP := plane_load C1
  have HB := Lib.hid b1
  have HC := Lib.hid C1
  have HG := Lib.hid (hg.on b1 b1.size)
  have HT := rf_there A n c ns en tp b w1 HG.out
  have hbl := C1.lt
  clear hg C1 b1
  cases hth : thB ns b with
  | false =>
    rw [hth] at HT
    have HS : Hid (StR ns level a b 0 false) := .inr ⟨rfl, rfl, .inl hth⟩
    unfold pgL at hw1 LP HT ⊢
    replace HT := Lib.hid HT
    clear hth hd hC
    go_enter Try.func53, Try.ntmps53
    go_upto_region 1 with fail
    (try rw [hw1])
    clear hw1
    go_wp2_with (first
      | refine wpList_loadE LP _ rfl rfl rfl ?_
      | (go_at_call 25; (with_reducible refine HT.out.mono ?_); rintro e w2 ⟨rfl, b2⟩; have HB2 := Lib.hid (HB.out.trans (b2.mono HB.out.size)); clear b2))
    go_ret2
    exact ⟨_, _, rfl, HS.out, HB2.out⟩
  | true =>
    rw [hth] at HT
    have HTH := Lib.hid hth
    have HDD := Lib.hid hd
    have HCC := Lib.hid hC
    unfold pgL at hw1 LP HT ⊢
    replace HT := Lib.hid HT
    clear hth hd hC
    go_enter Try.func53, Try.ntmps53
    go_upto_region 1 with fail
    (try rw [hw1])
    clear hw1
    go_upto_region 3 with (first
      | refine wpList_loadE LP _ rfl rfl rfl ?_
      | (go_at_call 25; (with_reducible refine HT.out.mono ?_); rintro e w2 ⟨rfl, b2⟩; have HB2 := Lib.hid b2; clear b2))
    have HC2 := Lib.hid (HC.out.below HB2.out hbl)
    have hs1 := HB.out.size
    have hs2 := HB2.out.size
    obtain ⟨w3, hw3⟩ : ∃ x, w2.alloc (.cells #[.int .i64 a] 3) = x := ⟨_, rfl⟩
    have b3 : Below w2.heap.size w2 w3 := by rw [← hw3]; exact bel_box _ _
    have HB3 : Hid (Below w1.heap.size w1 w3) := HB2.out.trans (b3.mono HB2.out.size)
    have HR : Hid (Rd w3 w3.heap.size (some ⟨w2.heap.size, 0, none⟩) 1 ([a].map (.int .i64))) := by
      show Rd _ _ _ _ _
      rw [← hw3]; exact rd_one _ _
    have HC3 := Lib.hid (HC.out.below HB3.out hbl)
    have HG3 := Lib.hid (HG.out.below HB3.out)
    clear b3 LP HT HC HC2 HG HB2
    go_wp2_with fail
    (try rw [hw3])
    clear hw3
    have hs3 := HB3.out.size
    have hnl := HG3.out.len
    have hnn := HG3.out.2.1
    go_loopg [10, 11, 12] (unI ns [a] + 1) (fun k s10 s11 _ wr => ∃ (i m' : Nat) (A' : Option Addr) (c' : Nat), s10 = .slice A' m' c' ∧ s11 = .int .i64 i ∧ unI ns (bI ns level [a] i) < k ∧ i + unI ns (bI ns level [a] i) ≤ ns.length ∧ Hid (∀ j, j < i → b ∉ bI ns level [a] j) ∧ Hid (Rd wr wr.heap.size A' m' ((bI ns level [a] i).map (.int .i64))) ∧ Hid (A' = none → m' = 0 ∧ c' = 0) ∧ Hid (Below w3.heap.size w3 wr))
    case atStart => exact ⟨0, 1, _, 1, rfl, rfl, Nat.lt_succ_self _, by have := unI_le ns [a]; show 0 + unI ns [a] ≤ _; omega, Lib.hid (fun j hj => absurd hj (Nat.not_lt_zero _)), HR, Lib.hid (fun q => by cases q), Lib.hid (Below.refl _ _)⟩
    case round =>
      obtain ⟨i, m', A1, c1, rfl, rfl, hk, hin, hno, hrd, hA1, hb⟩ := hrel
      have hsx := hb.out.size
      have hbl' := bI_len ns level [a] i
      rw [List.length_singleton] at hbl'
      have hlm := hrd.out.lenI
      have hcc := HCC.out
      have hmle : d * m' ≤ d * (1 + ns.length) := Nat.mul_le_mul_left _ (by omega)
      have hB1 := HB3.out.trans (hb.out.mono hs3)
      have HBW : Hid (Below w.heap.size w wr) := HB.out.trans (hB1.mono hs1)
      have HH := rf_has A1 m' c1 _ b wr hrd.out (by omega)
      have HG4 : PgAt wr wr.heap.size A n c ns := (HG3.out.below (hb.out.mono hs3)).more (by omega)
      have HST := rf_step d A n c ns en tp level A1 m' c1 _ wr HG4 hrd.out hA1.out HDD.out (by omega)
      have LP := plane_load (HC3.out.below hb.out (by omega))
      have HX : Hid (stepI ns level (bI ns level [a] i) = bI ns level [a] (i + 1)) := rfl
      unfold pgL at LP HST
      rw [HX.out] at HST
      replace HST := Lib.hid HST
      clear HG4 hB1
      cases hq : hasI (bI ns level [a] i) b with
      | true =>
        have HS : Hid (StR ns level a b (i : Int) true) := .inl ⟨rfl, HTH.out, i, rfl, hasI_iff.1 hq, hno.out⟩
        rw [hq] at HH
        replace HH := Lib.hid HH
        clear hq hbl' hcc hmle HST hno
        go_wp2_with (go_at_call 73; (with_reducible refine HH.out.mono ?_); rintro e w5 ⟨rfl, rfl⟩)
        go_ret2
        exact ⟨_, _, rfl, HS.out, HBW.out⟩
      | false =>
        have HNO : Hid (b ∉ bI ns level [a] i) := fun q => by rw [hasI_iff.2 q] at hq; cases hq
        rw [hq] at HH
        replace HH := Lib.hid HH
        have HLS := Lib.hid (@rI_less ns level [a] i)
        have HSL := stepI_len ns level (bI ns level [a] i)
        have HSS := Lib.hid (@stepI_same ns level (bI ns level [a] i))
        have HCO := Lib.hid (@clI_of ns level [a] i)
        rw [HX.out] at HLS HSL HSS HCO
        by_cases h0 : (bI ns level [a] (i + 1)).length = m'
        · have HS : Hid (StR ns level a b 0 false) := .inr ⟨rfl, rfl, .inr (by rw [← HCO.out (HSS.out (by omega))]; exact HNO.out)⟩
          clear hbl' hcc hmle HSL HLS HSS HCO hq hno
          go_wp2_with (first
            | refine wpList_loadE LP _ rfl rfl rfl ?_
            | (go_at_call 73; (with_reducible refine HH.out.mono ?_); rintro e w5 ⟨rfl, rfl⟩)
            | (go_at_call 89; (with_reducible refine HST.out.mono ?_); rintro e w5 ⟨A5, m5, c5, rfl, ho5, b5⟩; obtain rfl : m5 = m' := (by have := ho5.len; omega); have HB5 := Lib.hid (HBW.out.trans (b5.mono HBW.out.size)); clear ho5 b5))
          go_ret2
          exact ⟨_, _, rfl, HS.out, HB5.out⟩
        · have hless := HLS.out fun e => h0 (by rw [e]; exact hlm)
          have HNN : Hid (∀ j, j < i + 1 → b ∉ bI ns level [a] j) := fun j hj => by
            rcases Nat.lt_or_ge j i with q | q
            · exact hno.out j q
            · obtain rfl : j = i := by omega
              exact HNO.out
          clear hbl' hcc hmle HLS HSS HCO hq hno HNO
          go_wp2_with (first
            | refine wpList_loadE LP _ rfl rfl rfl ?_
            | (go_at_call 73; (with_reducible refine HH.out.mono ?_); rintro e w5 ⟨rfl, rfl⟩)
            | (go_at_call 89; (with_reducible refine HST.out.mono ?_); rintro e w5 ⟨A5, m5, c5, rfl, ho5, b5⟩; have h5 : ((m5 : Int) == (m' : Int)) = false := beq_false_of_ne (by have := ho5.len; omega); have HB5 := Lib.hid (hb.out.trans (b5.mono hsx)); have HO5 := Lib.hid ho5; clear ho5 b5))
          have HRN := Lib.hid HO5.out.rd
          have HAN : Hid (A5 = none → m5 = 0 ∧ c5 = 0) := HO5.out.none_
          clear hrd hA1 hb HO5 HST HH
          go_roundg (unI ns (bI ns level [a] (i + 1)) + 1)
          case rel => exact ⟨i + 1, m5, A5, c5, rfl, by go_num, Nat.lt_succ_self _, by omega, HNN, HRN, HAN, HB5⟩
          case measure => omega
/-- Append of one cell: what it leaves be, block by block. -/
theorem wpList_pushGV {P : Program} {ops : Array Oper} {rest : List Oper} {o : Oper} {a : Act} {Q : Exit → Act → World → Prop} (hgd : o.guard = none) (s x : Operand) (t : TypeId)
    (ho : o.op = .call { callee := .builtin .append, args := #[s, x], argTypes := #[t, t] })
    (base : Nat) (e : TypeId) (z : Value) (bytes : Nat) (hb8 : bytes ≤ 24) (hz0 : z.cells.size = 1) (ht : P.underlying t = some (.slice e)) (hinfo : (P.info? e).map (fun i => (i.zero, i.size, i.bytes)) = some (some z, 1, bytes))
    (wr : World) (A : Option Addr) (n c : Nat) (xs : List Value) (u : Value) (hu : u.oneCell' = true) (hs : a.eval s = .slice A n c) (hown : wr.ownsRow base e 1 (.slice A n c) n xs)
    (hx : a.eval x = .slice (some ⟨wr.heap.size, 0, none⟩) 1 1) (hn : n ≤ 1048576) (hbase : base ≤ wr.heap.size)
    (h : ∀ g c' w', w'.ownsRow base e 1 (.slice (some ⟨g, 0, none⟩) (n + 1) c') (n + 1) (xs ++ [u]) → Tch (fun k => (Value.slice A n c).ownBlock = some k) wr w' → ((Value.slice A n c).ownBlock = some g ∨ wr.heap.size ≤ g) → wpList P ops Q rest (a.put o.dst (.slice (some ⟨g, 0, none⟩) (n + 1) c')) w') :
    wpList P ops Q (o :: rest) a (wr.alloc (.cells #[u] e)) := by
  obtain ⟨i, hi, hz, hz1, hz2⟩ := info_parts hinfo
  have hb2 : (n + 1) * bytes ≤ (n + 1) * 24 := Nat.mul_le_mul_left _ hb8
  refine wpList_append_lies (wr.alloc (.cells #[u] e)) hgd s x t ho base e i z 1 bytes ht hi hz hz1 hz2 hz0 (by omega) _ n xs hs (hown.alloc _) ⟨wr.heap.size, 0, none⟩ 1 1 [u] hx rfl
    (cell_one_new _ _ _) (by intro v hv; simp at hv; subst hv; exact hu) (by omega) (by unfold maxLen; omega) (by omega) (by simp; omega) _ rfl ?_
  intro g cap w' hown' hg hat hlt
  have hs1 : (wr.alloc (.cells #[u] e)).heap.size = wr.heap.size + 1 := by simp only [World.alloc, Array.size_push]
  refine h g cap w' (by simpa using hown') ?_ (hat.imp id fun q => by omega)
  refine (Tch.alloc (S := fun k => (Value.slice A n c).ownBlock = some k) (Tch.refl _ wr) (.cells #[u] e)).trans (S' := fun k => (Value.slice A n c).ownBlock = some k) ⟨hg.os, hg.tape, hg.output, hg.size, fun k hk hn => hg.block k hk (fun q => hn q.symm)⟩ (fun k q => .inl q)
/-- 'append(zs, xs...)', xs not empty. -/
theorem wpList_catG {ops : Array Oper} {rest : List Oper} {o : Oper} {a : Act} {Q : Exit → Act → World → Prop} (hgd : o.guard = none) (s x : Operand)
    (ho : o.op = .call { callee := .builtin .append, args := #[s, x], argTypes := #[35, 35] })
    (base : Nat) (wr : World) (A : Option Addr) (n c : Nat) (zs : List Int) (A2 : Option Addr) (n2 c2 : Nat) (xs : List Int) (hs : a.eval s = .slice A n c) (hown : OwnI wr base A n c zs)
    (hx : a.eval x = .slice A2 n2 c2) (hr : Rd wr wr.heap.size A2 n2 (xs.map (.int .i64))) (hn2 : 0 < n2) (hn : n + n2 ≤ 1048576) (hbase : base ≤ wr.heap.size)
    (h : ∀ g c' w', OwnI w' base (some ⟨g, 0, none⟩) (n + n2) c' (zs ++ xs) → Tch (fun k => (Value.slice A n c).ownBlock = some k) wr w' → ((Value.slice A n c).ownBlock = some g ∨ wr.heap.size ≤ g) → wpList Try.prog ops Q rest (a.put o.dst (.slice (some ⟨g, 0, none⟩) (n + n2) c')) w') :
    wpList Try.prog ops Q (o :: rest) a wr := by
  obtain ⟨i, hi, hz, hz1, hz2⟩ := info_parts info_int
  obtain ⟨b, of, rfl, hb, hc⟩ := hr.2 hn2
  refine wpList_append_lies wr hgd s x 35 ho base 3 i (.int .i64 0) 1 8 Try.underlying35 hi hz hz1 hz2 rfl (by decide) _ n (zs.map (.int .i64)) hs hown ⟨b, of, none⟩ n2 c2 (xs.map (.int .i64)) hx (by rw [List.length_map, hr.lenI, Nat.mul_one])
    (by intro j u hu; rw [Addr.add_lit]; exact hc j u hu) (by intro v hv; obtain ⟨z, _, rfl⟩ := List.mem_map.1 hv; rfl) hn2 (by unfold maxLen; omega) (by omega) hbase _ rfl ?_
  intro g cap w' hown' hg hat hlt
  exact h g cap w' (by show World.ownsRow _ _ _ _ _ _ _; rw [List.map_append]; exact hown') ⟨hg.os, hg.tape, hg.output, hg.size, fun k hk hn => hg.block k hk (fun q => hn q.symm)⟩ (hat.imp id fun q => by omega)
/-- A list of lists of the call's own; X: blocks that may be written besides. -/
structure GrM (w : World) (EB : Nat) (X : Nat → Prop) (A : Option Addr) (n c : Nat) (is : List IS) : Prop where
  own : w.ownsRow EB 35 1 (.slice A n c) n (is.map IS.v)
  ox : ∀ k, (Value.slice A n c).ownBlock = some k → ¬ X k
  rows : ∀ l ∈ is, l.AtS w (fun b => b < w.heap.size ∧ ¬ X b ∧ ¬ (Value.slice A n c).ownBlock = some b) .i64
theorem GrM.nil_ (w : World) (EB : Nat) (X : Nat → Prop) : GrM w EB X none 0 0 [] := ⟨World.ownsRow_nil _ _ _ _, fun _ h => (by cases h), fun _ h => (by cases h)⟩
theorem ownsRow_apart {w w' : World} {EB e n c : Nat} {A : Option Addr} {xs : List Value} (h : w.ownsRow EB e 1 (.slice A n c) n xs) (hb : ∀ g, (Value.slice A n c).ownBlock = some g → w'.heap[g]? = w.heap[g]?) : w'.ownsRow EB e 1 (.slice A n c) n xs := by
  rcases Nat.eq_zero_or_pos n with h0 | h0
  · obtain ⟨h1, h2⟩ := h
    refine ⟨h1, ?_⟩
    rcases h2 with h2 | ⟨g, cap, cur, e1, e2, e3, e4, e5, e6, e7⟩
    · exact .inl h2
    · exact .inr ⟨g, cap, cur, e1, e2, (hb g (by injection e1 with e1; subst e1; rfl)).trans e3, e4, e5, e6, e7⟩
  · obtain ⟨h1, h2⟩ := h
    refine ⟨h1, ?_⟩
    rcases h2 with h2 | ⟨g, cap, cur, e1, e2, e3, e4, e5, e6, e7⟩
    · exact .inl h2
    · exact .inr ⟨g, cap, cur, e1, e2, (hb g (by injection e1 with e1; subst e1; rfl)).trans e3, e4, e5, e6, e7⟩
theorem GrM.tch {w w' : World} {EB n c : Nat} {X : Nat → Prop} {A : Option Addr} {is : List IS} (h : GrM w EB X A n c is) (ht : Tch X w w') : GrM w' EB X A n c is :=
  ⟨ownsRow_apart h.own fun g hg => ht.block g (World.ownsRow.lt h.own g hg).2 (h.ox g hg), h.ox, fun l hl => ((h.rows l hl).tch ht fun _ hb => ⟨hb.1, hb.2.1⟩).mono fun _ hb => ⟨Nat.lt_of_lt_of_le hb.1 ht.size, hb.2⟩⟩
theorem GrM.chX {w : World} {EB n c : Nat} {X X' : Nat → Prop} {A : Option Addr} {is : List IS} (h : GrM w EB X A n c is) (hX : ∀ k, X' k → X k ∨ w.heap.size ≤ k) : GrM w EB X' A n c is :=
  ⟨h.own, fun k hk q => (hX k q).elim (h.ox k hk) fun e => by have := (World.ownsRow.lt h.own k hk).2; omega, fun l hl => (h.rows l hl).mono fun b hb => ⟨hb.1, fun q => (hX b q).elim hb.2.1 fun e => by have := hb.1; omega, hb.2.2⟩⟩
theorem GrM.push {w w' : World} {EB n c c' g : Nat} {X : Nat → Prop} {A : Option Addr} {is : List IS} {l : IS} (h : GrM w EB X A n c is) (hX : ∀ k, X k → k < w.heap.size)
    (hl : l.AtS w (fun b => b < w.heap.size ∧ ¬ X b ∧ ¬ (Value.slice A n c).ownBlock = some b) .i64) (ho : w'.ownsRow EB 35 1 (.slice (some ⟨g, 0, none⟩) (n + 1) c') (n + 1) (is.map IS.v ++ [l.v]))
    (ht : Tch (fun k => (Value.slice A n c).ownBlock = some k) w w') (hg : (Value.slice A n c).ownBlock = some g ∨ w.heap.size ≤ g) : GrM w' EB X (some ⟨g, 0, none⟩) (n + 1) c' (is ++ [l]) := by
  refine ⟨by rw [List.map_append]; exact ho, fun k hk q => ?_, fun m hm => ?_⟩
  · have hk' : g = k := by injection hk
    subst hk'
    rcases hg with e | e
    · exact h.ox _ e q
    · have := hX _ q; omega
  · have h1 : m.AtS w (fun b => b < w.heap.size ∧ ¬ X b ∧ ¬ (Value.slice A n c).ownBlock = some b) .i64 := by
      rcases List.mem_append.1 hm with q | q
      · exact h.rows m q
      · rw [List.mem_singleton] at q; subst q; exact hl
    refine (h1.tch ht fun _ hb => ⟨hb.1, hb.2.2⟩).mono fun b hb => ⟨Nat.lt_of_lt_of_le hb.1 ht.size, hb.2.1, fun e => ?_⟩
    have e' : g = b := by injection e
    subst e'
    rcases hg with e2 | e2
    · exact hb.2.2 e2
    · have := hb.1; omega
theorem GrM.rd {w : World} {EB n c : Nat} {X : Nat → Prop} {A : Option Addr} {is : List IS} (h : GrM w EB X A n c is) : Rd w w.heap.size A n (is.map IS.v) ∧ ∀ l ∈ is, l.At w w.heap.size .i64 :=
  ⟨Rd.of_own h.own, fun l hl => (h.rows l hl).at_ fun _ hb => hb.1⟩
def RetGr (ls : List (List Int)) (w : World) (e : Ending) (w' : World) : Prop := ∃ (A : Option Addr) (n c : Nat) (is : List IS), e = .returned (.slice A n c) ∧ Rd w' w'.heap.size A n (is.map IS.v) ∧ (∀ l ∈ is, l.At w' w'.heap.size .i64) ∧ is.map IS.xs = ls ∧ Below w.heap.size w w'
/-- A map that is a set of numbers. -/
structure CbD (D : DataW Unit) (xs : List Int) : Prop where
  tidy : Tidy D
  val : ∀ v : Int, D.atKey (.int .i64 v) (.lit (.bool false)) = .lit (.bool (hasI xs v))
theorem CbD.nil_ : CbD (.map []) [] := ⟨tidy_empty, fun _ => rfl⟩
theorem CbD.snoc {D : DataW Unit} {xs : List Int} (h : CbD D xs) (v : Int) : CbD (D.put (.int .i64 v) (.lit (.bool true))) (xs ++ [v]) := by
  have hkey : WideAt.IsKeyLit (.int .i64 v) := trivial
  refine ⟨h.tidy.put hkey _, fun u => ?_⟩
  by_cases e : u = v
  · subst e
    rw [atKey_put_same h.tidy.isMap hkey, hasI_iff.2 (by simp)]
  · rw [atKey_put_other (fun q => e (key_inj q)), h.val u]
    congr 2
    rw [Bool.eq_iff_iff, hasI_iff, hasI_iff]
    simp [e]
def MbAt (w : World) (b n : Nat) (D : DataW Unit) : Prop := w.ownsMap Try.prog 3 (plainElem Try.prog 4) b n D
theorem MbAt.at_ {w w' : World} {b n : Nat} {D : DataW Unit} (h : MbAt w b n D) (hb : w'.heap[b]? = w.heap[b]?) : MbAt w' b n D := by
  obtain ⟨es, clock, h1, h2⟩ := h
  exact ⟨es, clock, hb.trans h1, h2⟩
theorem MbAt.lt {w : World} {b n : Nat} {D : DataW Unit} (h : MbAt w b n D) : b < w.heap.size := World.ownsMap.lt h
theorem MbAt.below {w w' : World} {b n : Nat} {D : DataW Unit} (h : MbAt w b n D) (hb : Below w.heap.size w w') : MbAt w' b n D := h.at_ (hb.block _ h.lt)
theorem zeroB : ∀ w, (zeroValue 4).run Try.prog w = .ok (.bool false) w := by
  have h : (Try.prog.info? 4).map (fun i => (i.zero, i.size)) = some (some (.bool false), 1) := by kernel_rfl
  exact (zero_of_info h).1
set_option maxRecDepth 100000 in
theorem MbAt.look {w : World} {b n : Nat} {D : DataW Unit} {xs : List Int} (h : MbAt w b n D) (hD : CbD D xs) {x : Int} (hx : (Lit.int .i64 x).wf = true) : (Instr.lookup 118 (.map (some b)) (.int .i64 x) false).run Try.prog w = .ok (.bool (hasI xs x)) w := by
  obtain ⟨v, ps, hrun, hv⟩ := World.ownsMap.lookup h lawI Try.underlying118 (zeroB w) (plainElem_bool Try.underlying4 false) (keyOf_int_mk (P := Try.prog) Try.underlying3 hx)
  rw [hD.val x] at hv
  have hv' : v = .bool (hasI xs x) := by
    have hu := Try.underlying4
    unfold plainElem at hv
    rw [hu] at hv
    cases v with
    | bool y => simp only [Option.some.injEq, Prod.mk.injEq] at hv; have h1 := hv.1; injection h1 with h1; injection h1 with h1; rw [h1]
    | _ => cases hv
  rw [hrun, hv']
theorem fromI_self {ns : List ND} {level x : Int} (hx : x ∈ liveI ns) : x ∈ fromI ns level [x] := List.mem_filter.2 ⟨hx, hasI_iff.2 (bI_cl (k := 0) (List.mem_singleton.2 rfl))⟩
theorem fromI_le (ns : List ND) (level : Int) (xs : List Int) : (fromI ns level xs).length ≤ ns.length := Nat.le_trans (List.length_filter_le _ _) (liveI_le ns)
theorem grp_len (ns : List ND) (level : Int) : ∀ (l : List Int) (p : List (List Int) × List Int), (l.foldl (grpF ns level) p).1.length ≤ p.1.length + l.length ∧ (l.foldl (grpF ns level) p).2.length ≤ p.2.length + ns.length * l.length
  | [], p => ⟨Nat.le_refl _, Nat.le_refl _⟩
  | x :: l, p => by
    obtain ⟨h1, h2⟩ := grp_len ns level l (grpF ns level p x)
    have h3 := fromI_le ns level [x]
    rw [List.foldl_cons, List.length_cons, Nat.mul_succ]
    have h4 : (grpF ns level p x).1.length ≤ p.1.length + 1 ∧ (grpF ns level p x).2.length ≤ p.2.length + ns.length := by
      unfold grpF
      split
      · exact ⟨Nat.le_succ _, Nat.le_add_right _ _⟩
      · simp; omega
    omega
theorem OwnI.atS {w : World} {B n c : Nat} {A : Option Addr} {xs : List Int} (h : OwnI w B A n c xs) (hn : n ≤ 1048576) (hwf : ∀ x ∈ xs, (Lit.int .i64 x).wf = true) : IS.AtS w (fun b => B ≤ b ∧ b < w.heap.size) .i64 ⟨A, n, c, xs⟩ := by
  refine ⟨h.none_, hn, ⟨h.rd.1, fun h0 => ?_⟩, hwf⟩
  obtain ⟨b, o, e, hb, hc⟩ := h.rd.2 h0
  refine ⟨b, o, e, ⟨?_, hb⟩, hc⟩
  rcases h.row with ⟨e2, _⟩ | ⟨g, e2, hB, _⟩
  · have h1 : A = some ⟨b, o, none⟩ := e
    rw [e2] at h1; cases h1
  · have h1 : A = some ⟨b, o, none⟩ := e
    rw [e2] at h1; injection h1 with h1; injection h1 with h1; omega
theorem Tch.pl1 {w w' : World} {B b n c bm : Nat} {A : Option Addr} {ns : List ND} (hg : PgAt w B A n c ns) (ht : Tch (fun k => k = bm) w w') (hB : B ≤ w.heap.size) (h2 : B ≤ bm) (hb : B ≤ b) : PgAt w' b A n c ns :=
  (hg.below (ht.below hB (by rintro k rfl; omega))).more hb
set_option maxRecDepth 100000 in
set_option maxHeartbeats 4000000 in
theorem pl_groups (d : Nat) (A : Option Addr) (n c : Nat) (ns : List ND) (en tp level : Int) (w : World) (hg : PgAt w w.heap.size A n c ns)
    (hd : ∀ s, (nearI ns s level).length ≤ d) (hC : 1 + d * (1 + ns.length) ≤ 1048576) (hns : ns.length ≤ 1000) :
    Calls Try.prog 57 #[.agg (pgL A n c en tp), .int .i64 level] w (RetGr (grpI ns level) w) := by
  obtain ⟨w1, hw1⟩ : ∃ x, w.alloc (.cells (pgL A n c en tp) 56) = x := ⟨_, rfl⟩
  obtain ⟨C1, b1⟩ := box_plane hw1
  obtain ⟨w2, hw2⟩ : ∃ x, w1.alloc (.map #[] 0) = x := ⟨_, rfl⟩
  have b2 : Below w1.heap.size w1 w2 := by rw [← hw2]; exact bel_box _ _
  have s2 : w2.heap.size = w1.heap.size + 1 := by rw [← hw2]; simp only [World.alloc, Array.size_push]
  have HM2 : Hid (MbAt w2 w1.heap.size 0 (.map [])) := by
    show MbAt _ _ _ _
    rw [← hw2]
    exact World.ownsMap_made w1 Try.prog 3 (plainElem (H := Unit) Try.prog 4)
  have hmm := fun w => run_makeMap (P := Try.prog) 118 w
  have HB := Lib.hid b1
  have HB2 := Lib.hid b2
  have HC := Lib.hid (C1.below b2 C1.lt)
  have HG := Lib.hid ((hg.on b1 b1.size).below b2)
  have LP := plane_load HC.out
  have HLV := pl_live A n c ns en tp w2 (HG.out.more b2.size)
  have hbl := C1.lt
  have HDD := Lib.hid hd
  have HCC := Lib.hid hC
  clear hg C1 b1 b2 hd hC
  unfold pgL at hw1 LP HLV ⊢
  replace HLV := Lib.hid HLV
  go_enter Try.func57, Try.ntmps57
  go_upto_region 1 with fail
  (try rw [hw1])
  go_upto_region 3 with fail
  (try rw [hw2])
  clear hw1 hw2 hmm
  go_wp2_with (first
    | refine wpList_loadE LP _ rfl rfl rfl ?_
    | (go_at_call 27; (with_reducible refine HLV.out.mono ?_); rintro e w4 ⟨A4, m4, c4, rfl, ho4, b4⟩; have HO4 := Lib.hid ho4; have HB4 := Lib.hid b4; clear ho4 b4))
  have hs1 := HB.out.size
  have hs4 := HB4.out.size
  have hlv := liveI_le ns
  have hnl := HG.out.len
  have hnn := HG.out.2.1
  have HG4 : Hid (PgAt w4 w1.heap.size A n c ns) := HG.out.below (HB4.out.mono (by omega))
  have HC4 : Hid (Blk w4 w.heap.size 56 (pgL A n c en tp)) := HC.out.below HB4.out (by omega)
  have HM4 : Hid (MbAt w4 w1.heap.size 0 (.map [])) := HM2.out.below HB4.out
  obtain ⟨L, hL⟩ : ∃ L, liveI ns = L := ⟨_, rfl⟩
  have HLL : Hid (∀ x ∈ L, x ∈ liveI ns) := fun x hx => by rw [hL]; exact hx
  have HGI : Hid (grpI ns level = (L.foldl (grpF ns level) ([], [])).1) := by show _ = _; unfold grpI; rw [hL]
  rw [hL] at HO4 hlv
  have hm4 := HO4.out.len
  have HR4 := Lib.hid HO4.out.rd
  clear HO4 LP HLV HG HC HM2 hL
  obtain ⟨bm, hbm⟩ : ∃ bm, w1.heap.size = bm := ⟨_, rfl⟩
  rw [hbm] at HM4 s2 HG4 HB2 hbl hs1
  try rw [hbm]
  go_loopw [5, 8, 9, 11, 16] (fun s5 _ _ _ s16 wr => ∃ (j m : Nat) (A' : Option Addr) (c' : Nat) (is : List IS) (q2 : List Int) (em : Nat) (D : DataW Unit), j ≤ m4 ∧ m ≤ j ∧ em ≤ q2.length ∧ q2.length ≤ 1000 * j ∧ s16 = .int .i64 j ∧ s5 = .slice A' m c' ∧ Hid ((L.take j).foldl (grpF ns level) ([], []) = (is.map IS.xs, q2)) ∧ Hid (MbAt wr bm em D) ∧ Hid (CbD D q2) ∧ Hid (GrM wr w4.heap.size (fun k => k = bm) A' m c' is) ∧ Hid (Tch (fun k => k = bm) w4 wr)) (fun _ _ _ _ s16 _ => m4 - (intOf s16).toNat)
  case atStart => exact ⟨0, 0, none, 0, [], [], 0, .map [], Nat.zero_le _, Nat.zero_le _, Nat.zero_le _, Nat.zero_le _, rfl, rfl, Lib.hid (by show _ = _; simp), HM4, Lib.hid CbD.nil_, Lib.hid (GrM.nil_ _ _ _), Lib.hid (Tch.refl _ _)⟩
  case round =>
    obtain ⟨j, m, A', c', is, q2, em, D, hj, hm, hem, hql, rfl, rfl, hfr, hM, hCb, hgr, ht⟩ := hrel
    have hsx := ht.out.size
    by_cases hlt : j < m4
    · obtain ⟨lb, lo, rfl, hlb, hx0⟩ := rd_ig HR4.out hlt
      have hne : lb ≠ bm := fun e => by
        subst e
        obtain ⟨es, clock, q1, _⟩ := HM4.out
        have q2 := hx0
        unfold World.cell? at q2
        simp only [q1] at q2
        simp at q2
      have hx4 : wr.cell? ⟨lb, lo + j, none⟩ = some (.int .i64 (ig L j)) := (ht.out.cell (p := ⟨lb, lo + j, none⟩) hlb (by show ¬ lb = bm; exact hne)).trans hx0
      have hxj : j < L.length := by omega
      have hfo := re_fold_take (grpF ns level) ([], []) hxj
      rw [hfr.out] at hfo
      have hmem := HLL.out _ (ig_mem hxj)
      obtain ⟨x, hx⟩ : ∃ x, ig L j = x := ⟨_, rfl⟩
      rw [hx] at hx4 hfo hmem
      obtain ⟨k, hxk, hkt, hkl⟩ := live_nat hmem
      have hkn : k < n := by omega
      have HGW : Hid (PgAt wr wr.heap.size A n c ns) := Tch.pl1 HG4.out ht.out (by omega) (Nat.le_refl _) (by omega)
      obtain ⟨b, o, rfl, HY⟩ := HGW.out.levY hkn
      have z3 := HY.out wr (Below.refl _ _)
      have HCW : Hid (Blk wr w.heap.size 56 (pgL (some ⟨b, o, none⟩) n c en tp)) := (ht.out.block _ (by omega) (by show ¬ w.heap.size = bm; omega)).trans HC4.out
      have z0 : wr.cell? ⟨w.heap.size, 0, none⟩ = some (.slice (some ⟨b, o, none⟩) n c) := HCW.out.cell 0
      have hwx := wf_live HGW.out hmem
      obtain rfl : x = (k : Int) := hxk
      have HMEM := Lib.hid hmem
      have HLK := hM.out.look hCb.out hwx
      have hgf : grpF ns level (is.map IS.xs, q2) (k : Int) = if decide ((nAt ns k).level < level) || hasI q2 (k : Int) then (is.map IS.xs, q2) else (is.map IS.xs ++ [fromI ns level [(k : Int)]], q2 ++ fromI ns level [(k : Int)]) := by unfold grpF; rw [Int.toNat_natCast]
      rw [hgf] at hfo
      obtain ⟨l, hl⟩ : ∃ l, (nAt ns k).level = l := ⟨_, rfl⟩
      rw [hl] at z3 hfo
      clear hl HY hx hx0 hgf hmem hkt
      cases hlw : decide (l < level) with
      | true =>
        rw [hlw, Bool.true_or, if_pos rfl] at hfo
        have HF := Lib.hid hfo
        clear hfo HLK HCW HGW hfr
        go_wp2_with fail
        go_roundw
        case rel => exact ⟨j + 1, m, A', c', is, q2, em, D, by omega, by omega, by omega, by omega, by go_num, rfl, HF, hM, hCb, hgr, ht⟩
        case measure => simp [intOf]; omega
      | false =>
        rw [hlw, Bool.false_or] at hfo
        cases hq : hasI q2 (k : Int) with
        | true =>
          rw [hq, if_pos rfl] at hfo
          rw [hq] at HLK
          have HF := Lib.hid hfo
          clear hfo HCW HGW hfr hq
          go_wp2_with fail
          go_roundw
          case rel => exact ⟨j + 1, m, A', c', is, q2, em, D, by omega, by omega, by omega, by omega, by go_num, rfl, HF, hM, hCb, hgr, ht⟩
          case measure => simp [intOf]; omega
        | false =>
          rw [hq, if_neg (by decide)] at hfo
          rw [hq] at HLK
          have HF := Lib.hid hfo
          have LP := plane_load HCW.out
          obtain ⟨Y, hY⟩ : ∃ x, wr.alloc (.cells #[.int .i64 (k : Int)] 3) = x := ⟨_, rfl⟩
          have bY : Below wr.heap.size wr Y := by rw [← hY]; exact bel_box _ _
          have hRY : Rd Y Y.heap.size (some ⟨wr.heap.size, 0, none⟩) 1 ([(k : Int)].map (.int .i64)) := by rw [← hY]; exact rd_one _ _
          have HFR := pl_from d (some ⟨b, o, none⟩) n c ns en tp level (some ⟨wr.heap.size, 0, none⟩) 1 1 [(k : Int)] Y (HGW.out.on bY bY.size) hRY (by intro x hx; rw [List.mem_singleton] at hx; subst hx; exact hwx) HDD.out (by have := HCC.out; simpa using this)
          have HSF : Hid ((k : Int) ∈ fromI ns level [(k : Int)]) := fromI_self HMEM.out
          have hFl := fromI_le ns level [(k : Int)]
          have HFW : Hid (∀ y ∈ fromI ns level [(k : Int)], (Lit.int .i64 y).wf = true) := fun y hy => wf_live HGW.out (List.mem_filter.1 hy).1
          obtain ⟨F, hF⟩ : ∃ F, fromI ns level [(k : Int)] = F := ⟨_, rfl⟩
          rw [hF] at HFR HF HSF hFl HFW
          unfold pgL at LP HFR
          replace HFR := Lib.hid HFR
          have HBY := Lib.hid bY
          clear hfo HCW hfr hq hRY bY hF
          go_upto_region 9 with (first
            | refine wpList_loadE LP _ rfl rfl rfl ?_
            | (go_at_call 54; (try rw [hY]); (with_reducible refine HFR.out.mono ?_); rintro e w6 ⟨A6, n6, c6, rfl, ho6, b6⟩; have HO6 := Lib.hid ho6; have HB6 := Lib.hid b6; clear ho6 b6))
          have hsY := HBY.out.size
          have hs6 := HB6.out.size
          have hn6 := HO6.out.len
          have HW6 : Hid (Below wr.heap.size wr w6) := HBY.out.trans (HB6.out.mono hsY)
          have HM6 : Hid (MbAt w6 bm em D) := hM.out.below HW6.out
          have hlM := hM.out.lt
          have HGR6 : Hid (GrM w6 w4.heap.size (fun k => k = bm) A' m c' is) := hgr.out.tch (Tch.of_below (S := fun k => k = bm) HW6.out)
          have HT6 : Hid (Tch (fun k => k = bm) w4 w6) := ht.out.trans (Tch.of_below (S := fun k => k = bm) HW6.out) (fun k q => .inl q)
          have HOB : Hid (∀ b, (Value.slice A' m c').ownBlock = some b → b < wr.heap.size) := fun b q => (World.ownsRow.lt hgr.out.own b q).2
          clear LP HFR HLK hM hgr hY
          go_wp2_with fail
          obtain ⟨wo, hwo⟩ : ∃ wo : World, wo = wr := ⟨_, rfl⟩
          have hwos : wr.heap.size = wo.heap.size := by rw [hwo]
          rw [hwos] at hlM hsY hsx
          rw [← hwo] at HW6 HOB
          clear ht HGW hwo hwos HBY
          go_loopw [11, 40] (fun _ s40 wx => ∃ (i em2 : Nat) (D2 : DataW Unit), i ≤ n6 ∧ em2 ≤ q2.length + i ∧ s40 = .int .i64 i ∧ Hid (MbAt wx bm em2 D2) ∧ Hid (CbD D2 (q2 ++ F.take i)) ∧ Hid (Tch (fun k => k = bm) w6 wx)) (fun _ s40 _ => n6 - (intOf s40).toNat)
          case atStart => exact ⟨0, em, D, Nat.zero_le _, by omega, rfl, HM6, Lib.hid (by show CbD _ _; simpa using hCb.out), Lib.hid (Tch.refl _ _)⟩
          case round =>
            obtain ⟨i, em2, D2, hi, hem2, rfl, hM2, hCb2, ht2⟩ := hrel
            have hsy := ht2.out.size
            by_cases hli : i < n6
            · obtain ⟨g3, hA2, hg3, hg4, hx3⟩ := OwnI.cellY HO6.out hli
              have hx5 : wr.cell? ⟨g3, i, none⟩ = some (.int .i64 (ig F i)) := (ht2.out.cell (p := ⟨g3, i, none⟩) hg4 (by show ¬ g3 = bm; omega)).trans hx3
              have hyi : i < F.length := by omega
              have HTK := Lib.hid (take_step (zs := F) (k := i) hyi)
              have hwy := HFW.out _ (ig_mem hyi)
              obtain ⟨y, hy⟩ : ∃ y, ig F i = y := ⟨_, rfl⟩
              rw [hy] at hx5 HTK hwy
              have hkey := keyOf_int_mk (P := Try.prog) Try.underlying3 hwy
              have hmx : em2 < maxLen := by unfold maxLen; omega
              subst hA2
              clear hx3 hy hwy
              go_wp2_with (at_mapUpdate; refine wpList_mapUpdate_own _ rfl (.tmp 44) (.tmp 45) _ 118 rfl 3 4 lawI Try.underlying118 (plainElem Try.prog 4) bm em2 D2 rfl hM2.out hmx (.int .i64 y) (.bool true) (.int .i64 y) rfl rfl hkey (.lit (.bool true)) [] (plainElem_bool Try.underlying4 true) ?_; intro w8 hM8 hg8; have HM8 := Lib.hid hM8; have HG8 := Lib.hid hg8; clear hM8 hg8)
              have HCN : Hid (CbD (D2.put (.int .i64 y) (.lit (.bool true))) (q2 ++ F.take (i + 1))) := by
                show CbD _ _
                rw [HTK.out, ← List.append_assoc]; exact hCb2.out.snoc y
              have HTN : Hid (Tch (fun k => k = bm) w6 w8) := ht2.out.trans (S' := fun k => k = bm) ⟨HG8.out.os, HG8.out.tape, HG8.out.output, HG8.out.size, fun k hk hn => HG8.out.block k hk (by intro e; injection e with e; exact hn e)⟩ (fun k q => .inl q)
              clear hM2 hCb2 ht2 hx5 HG8
              go_roundw
              case rel => exact ⟨i + 1, em2 + 1, _, by omega, by omega, by go_num, HM8, HCN, HTN⟩
              case measure => simp [intOf]; omega
            · obtain rfl : i = n6 := by omega
              have HCN : Hid (CbD D2 (q2 ++ F)) := by
                show CbD _ _
                have h1 := hCb2.out
                rwa [List.take_of_length_le (by omega)] at h1
              have HGX : Hid (GrM wr w4.heap.size (fun k => k = bm) A' m c' is) := HGR6.out.tch ht2.out
              have HTX : Hid (Tch (fun k => k = bm) w4 wr) := HT6.out.trans ht2.out (fun k q => .inl q)
              have HSX : Hid (IS.AtS wr (fun b => b < wr.heap.size ∧ ¬ b = bm ∧ ¬ (Value.slice A' m c').ownBlock = some b) .i64 ⟨A6, i, c6, F⟩) := by
                have h1 := HO6.out.atS (by omega) HFW.out
                refine (h1.tch ht2.out fun b hb => ⟨hb.2, by show ¬ b = bm; omega⟩).mono fun b hb => ⟨by omega, by omega, fun q => ?_⟩
                have h2 := HOB.out b q
                omega
              clear hCb2 ht2 hCb HGR6 HT6 HM6 HO6 HW6
              go_wp2_with (at_builtin; refine wpList_pushGV rfl (.tmp 47) (.tmp 49) _ rfl w4.heap.size 35 (.slice none 0 0) 24 (by decide) rfl Try.underlying86 info_ints wr A' m c' (is.map IS.v) (.slice A6 i c6) rfl rfl HGX.out.own rfl (by omega) (by have := HTX.out.size; omega) ?_; intro g' c'' w9 ho9 ht9 hg9; have HO9 := Lib.hid ho9; have HT9 := Lib.hid ht9; have HG9 := Lib.hid hg9; clear ho9 ht9 hg9)
              have HGN : Hid (GrM w9 w4.heap.size (fun k => k = bm) (some ⟨g', 0, none⟩) (m + 1) c'' (is ++ [(⟨A6, i, c6, F⟩ : IS)])) := by
                have hb := hM2.out.lt
                exact HGX.out.push (fun k q => by subst q; exact hb) HSX.out HO9.out HT9.out HG9.out
              have HMN : Hid (MbAt w9 bm em2 D2) := hM2.out.at_ (HT9.out.block bm hM2.out.lt (fun q => HGX.out.ox _ q rfl))
              have HTN : Hid (Tch (fun k => k = bm) w4 w9) := HTX.out.trans HT9.out (fun k q => .inr (World.ownsRow.lt HGX.out.own k q).1)
              have HFN : Hid ((L.take (j + 1)).foldl (grpF ns level) ([], []) = ((is ++ [(⟨A6, i, c6, F⟩ : IS)]).map IS.xs, q2 ++ F)) := by
                show _ = _
                rw [HF.out, List.map_append]; rfl
              have hlq : (q2 ++ F).length = q2.length + i := by rw [List.length_append, hn6]
              clear HGX HSX HO9 HT9 HG9 hM2 HTX HF
              go_roundw
              case rel => exact ⟨j + 1, m + 1, some ⟨g', 0, none⟩, c'', is ++ [(⟨A6, i, c6, F⟩ : IS)], q2 ++ F, em2, D2, by omega, by omega, by omega, by omega, by go_num, rfl, HFN, HMN, HCN, HGN, HTN⟩
              case measure => simp [intOf]; omega
    · obtain rfl : j = m4 := by omega
      have HFin : Hid (RetGr (grpI ns level) w (.returned (.slice A' m c')) wr) := by
        have h1 := hfr.out
        rw [List.take_of_length_le (by omega)] at h1
        refine ⟨_, _, _, is, rfl, hgr.out.rd.1, hgr.out.rd.2, by rw [HGI.out, h1], ?_⟩
        have h2 : Below w.heap.size w w2 := HB.out.trans (HB2.out.mono hs1)
        exact (h2.trans (HB4.out.mono (by omega))).trans (ht.out.below (by omega) (by rintro k rfl; omega))
      clear hfr hgr ht hM hCb
      go_wp2_with fail
      go_ret
      exact HFin.out
theorem gr_cat {w w' : World} {EB n c g n' c' : Nat} {X : Nat → Prop} {A : Option Addr} {is : List IS} (h : GrM w EB X A n c is) (ht : Tch X w w') (hg : X g ∨ w.heap.size ≤ g) : GrM w' EB (fun k => (Value.slice (some ⟨g, 0, none⟩) n' c').ownBlock = some k) A n c is := by
  have h1 : GrM w EB (fun k => (Value.slice (some ⟨g, 0, none⟩) n' c').ownBlock = some k) A n c is := h.chX fun k q => by
    have e : g = k := by injection q
    subst e; exact hg
  have h2 := h.tch ht
  exact ⟨h2.own, h1.ox, fun l hl => ((h1.rows l hl).mono (S' := fun b => b < w.heap.size ∧ ¬ (Value.slice (some ⟨g, 0, none⟩) n' c').ownBlock = some b ∧ ¬ (Value.slice A n c).ownBlock = some b) fun _ q => q) |> fun _ => by
    refine ⟨(h2.rows l hl).1, (h2.rows l hl).2.1, ⟨(h2.rows l hl).2.2.1.1, fun h0 => ?_⟩, (h2.rows l hl).2.2.2⟩
    obtain ⟨b, o, e, hb, hc⟩ := (h2.rows l hl).2.2.1.2 h0
    obtain ⟨b', o', e', hb', _⟩ := (h1.rows l hl).2.2.1.2 h0
    rw [e] at e'; injection e' with e'; injection e' with e1 e2
    subst e1
    exact ⟨b, o, e, ⟨hb.1, hb'.2.1, hb.2.2⟩, hc⟩⟩
set_option maxRecDepth 100000 in
set_option maxHeartbeats 4000000 in
theorem rf_groups (d : Nat) (A : Option Addr) (n c : Nat) (ns : List ND) (en tp level : Int) (w : World) (hg : PgAt w w.heap.size A n c ns)
    (hd : ∀ s, (nearI ns s level).length ≤ d) (hC : (1 + ns.length) + d * (1 + ns.length) ≤ 1048576) (hns : ns.length ≤ 1000) :
    Calls Try.prog 58 #[.agg (pgL A n c en tp), .int .i64 level] w (RetGr (grpI ns level) w) := by
  obtain ⟨w1, hw1⟩ : ∃ x, w.alloc (.cells (pgL A n c en tp) 56) = x := ⟨_, rfl⟩
  obtain ⟨C1, b1⟩ := box_plane hw1
  have HB := Lib.hid b1
  have HC := Lib.hid C1
  have HG := Lib.hid (hg.on b1 b1.size)
  have LP := plane_load HC.out
  have HLV := rf_live A n c ns en tp w1 HG.out
  have hbl := C1.lt
  have HDD := Lib.hid hd
  have HCC := Lib.hid hC
  clear hg C1 b1 hd hC
  unfold pgL at hw1 LP HLV ⊢
  replace HLV := Lib.hid HLV
  go_enter Try.func58, Try.ntmps58
  go_upto_region 1 with fail
  (try rw [hw1])
  clear hw1
  go_wp2_with (first
    | refine wpList_loadE LP _ rfl rfl rfl ?_
    | (go_at_call 28; (with_reducible refine HLV.out.mono ?_); rintro e w4 ⟨A4, m4, c4, rfl, ho4, b4⟩; have HO4 := Lib.hid ho4; have HB4 := Lib.hid b4; clear ho4 b4))
  have hs1 := HB.out.size
  have hs4 := HB4.out.size
  have hlv := liveI_le ns
  have hnl := HG.out.len
  have hnn := HG.out.2.1
  have HG4 : Hid (PgAt w4 w4.heap.size A n c ns) := HG.out.on HB4.out hs4
  have HC4 : Hid (Blk w4 w.heap.size 56 (pgL A n c en tp)) := HC.out.below HB4.out hbl
  obtain ⟨L, hL⟩ : ∃ L, liveI ns = L := ⟨_, rfl⟩
  have HLL : Hid (∀ x ∈ L, x ∈ liveI ns) := fun x hx => by rw [hL]; exact hx
  have HGI : Hid (grpI ns level = (L.foldl (grpF ns level) ([], [])).1) := by show _ = _; unfold grpI; rw [hL]
  rw [hL] at HO4 hlv
  have hm4 := HO4.out.len
  have HR4 := Lib.hid HO4.out.rd
  clear HO4 LP HLV HG HC hL
  go_loopw [5, 6, 8, 9, 13] (fun s5 s6 _ _ s13 wr => ∃ (j m : Nat) (A' : Option Addr) (c' : Nat) (is : List IS) (A1 : Option Addr) (n1 c1 : Nat) (q2 : List Int), j ≤ m4 ∧ m ≤ j ∧ n1 ≤ 1000 * j ∧ s13 = .int .i64 j ∧ s5 = .slice A' m c' ∧ s6 = .slice A1 n1 c1 ∧ Hid ((L.take j).foldl (grpF ns level) ([], []) = (is.map IS.xs, q2)) ∧ Hid (OwnI wr w4.heap.size A1 n1 c1 q2) ∧ Hid (GrM wr w4.heap.size (fun k => (Value.slice A1 n1 c1).ownBlock = some k) A' m c' is) ∧ Hid (Below w4.heap.size w4 wr)) (fun _ _ _ _ s13 _ => m4 - (intOf s13).toNat)
  case atStart => exact ⟨0, 0, none, 0, [], none, 0, 0, [], Nat.zero_le _, Nat.zero_le _, Nat.zero_le _, rfl, rfl, rfl, Lib.hid (by show _ = _; simp), Lib.hid (OwnI.nil_ _ _), Lib.hid (GrM.nil_ _ _ _), Lib.hid (Below.refl _ _)⟩
  case round =>
    obtain ⟨j, m, A', c', is, A1, n1, c1, q2, hj, hm, hn1, rfl, rfl, rfl, hfr, hmo, hgr, hb⟩ := hrel
    have hsx := hb.out.size
    by_cases hlt : j < m4
    · obtain ⟨lb, lo, rfl, hlb, hx0⟩ := rd_ig HR4.out hlt
      have hx4 : wr.cell? ⟨lb, lo + j, none⟩ = some (.int .i64 (ig L j)) := (hb.out.cell (p := ⟨lb, lo + j, none⟩) hlb).trans hx0
      have hxj : j < L.length := by omega
      have hfo := re_fold_take (grpF ns level) ([], []) hxj
      rw [hfr.out] at hfo
      have hmem := HLL.out _ (ig_mem hxj)
      obtain ⟨x, hx⟩ : ∃ x, ig L j = x := ⟨_, rfl⟩
      rw [hx] at hx4 hfo hmem
      obtain ⟨k, hxk, hkt, hkl⟩ := live_nat hmem
      have hkn : k < n := by omega
      have HGW : Hid (PgAt wr wr.heap.size A n c ns) := HG4.out.on hb.out hsx
      obtain ⟨b, o, rfl, HY⟩ := HGW.out.levY hkn
      have z3 := HY.out wr (Below.refl _ _)
      have HCW : Hid (Blk wr w.heap.size 56 (pgL (some ⟨b, o, none⟩) n c en tp)) := HC4.out.below hb.out (by omega)
      have z0 : wr.cell? ⟨w.heap.size, 0, none⟩ = some (.slice (some ⟨b, o, none⟩) n c) := HCW.out.cell 0
      have hwx := wf_live HGW.out hmem
      obtain rfl : x = (k : Int) := hxk
      have HMEM := Lib.hid hmem
      have hol := hmo.out.len
      have HH := rf_has A1 n1 c1 q2 (k : Int) wr hmo.out.rd (by omega)
      have hgf : grpF ns level (is.map IS.xs, q2) (k : Int) = if decide ((nAt ns k).level < level) || hasI q2 (k : Int) then (is.map IS.xs, q2) else (is.map IS.xs ++ [fromI ns level [(k : Int)]], q2 ++ fromI ns level [(k : Int)]) := by unfold grpF; rw [Int.toNat_natCast]
      rw [hgf] at hfo
      obtain ⟨l, hl⟩ : ∃ l, (nAt ns k).level = l := ⟨_, rfl⟩
      rw [hl] at z3 hfo
      clear hl HY hx hx0 hgf hmem hkt
      cases hlw : decide (l < level) with
      | true =>
        rw [hlw, Bool.true_or, if_pos rfl] at hfo
        have HF := Lib.hid hfo
        clear hfo HH HCW HGW hfr
        go_wp2_with fail
        go_roundw
        case rel => exact ⟨j + 1, m, A', c', is, A1, n1, c1, q2, by omega, by omega, by omega, by go_num, rfl, rfl, HF, hmo, hgr, hb⟩
        case measure => simp [intOf]; omega
      | false =>
        rw [hlw, Bool.false_or] at hfo
        cases hq : hasI q2 (k : Int) with
        | true =>
          rw [hq, if_pos rfl] at hfo
          rw [hq] at HH
          replace HH := Lib.hid HH
          have HF := Lib.hid hfo
          clear hfo HCW HGW hfr hq
          go_wp2_with (go_at_call 73; (with_reducible refine HH.out.mono ?_); rintro e w5 ⟨rfl, rfl⟩)
          go_roundw
          case rel => exact ⟨j + 1, m, A', c', is, A1, n1, c1, q2, by omega, by omega, by omega, by go_num, rfl, rfl, HF, hmo, hgr, hb⟩
          case measure => simp [intOf]; omega
        | false =>
          rw [hq, if_neg (by decide)] at hfo
          rw [hq] at HH
          replace HH := Lib.hid HH
          have HF := Lib.hid hfo
          have LP := plane_load HCW.out
          obtain ⟨Y, hY⟩ : ∃ x, wr.alloc (.cells #[.int .i64 (k : Int)] 3) = x := ⟨_, rfl⟩
          have bY : Below wr.heap.size wr Y := by rw [← hY]; exact bel_box _ _
          have hRY : Rd Y Y.heap.size (some ⟨wr.heap.size, 0, none⟩) 1 ([(k : Int)].map (.int .i64)) := by rw [← hY]; exact rd_one _ _
          have HFR := rf_from d (some ⟨b, o, none⟩) n c ns en tp level (some ⟨wr.heap.size, 0, none⟩) 1 1 [(k : Int)] Y (HGW.out.on bY bY.size) hRY (fun q => by cases q) HDD.out HCC.out
          have HSF : Hid ((k : Int) ∈ fromI ns level [(k : Int)]) := fromI_self HMEM.out
          have hFl := fromI_le ns level [(k : Int)]
          have HFW : Hid (∀ y ∈ fromI ns level [(k : Int)], (Lit.int .i64 y).wf = true) := fun y hy => wf_live HGW.out (List.mem_filter.1 hy).1
          obtain ⟨F, hF⟩ : ∃ F, fromI ns level [(k : Int)] = F := ⟨_, rfl⟩
          rw [hF] at HFR HF HSF hFl HFW
          have hFp : 0 < F.length := List.length_pos_of_mem HSF.out
          unfold pgL at LP HFR
          replace HFR := Lib.hid HFR
          have HBY := Lib.hid bY
          clear hfo HCW hfr hq hRY bY hF
          go_upto_region 8 with (first
            | refine wpList_loadE LP _ rfl rfl rfl ?_
            | (go_at_call 73; (with_reducible refine HH.out.mono ?_); rintro e w5 ⟨rfl, rfl⟩)
            | (go_at_call 55; (try rw [hY]); (with_reducible refine HFR.out.mono ?_); rintro e w6 ⟨A6, n6, c6, rfl, ho6, b6⟩; have HO6 := Lib.hid ho6; have HB6 := Lib.hid b6; clear ho6 b6))
          have hsY := HBY.out.size
          have hs6 := HB6.out.size
          have hn6 := HO6.out.len
          have HW6 : Hid (Below wr.heap.size wr w6) := HBY.out.trans (HB6.out.mono hsY)
          have HX : Hid (∀ k, (Value.slice A1 n1 c1).ownBlock = some k → k < wr.heap.size) := fun k q => (World.ownsRow.lt hmo.out k q).2
          have HOB : Hid (∀ b, (Value.slice A' m c').ownBlock = some b → b < wr.heap.size) := fun b q => (World.ownsRow.lt hgr.out.own b q).2
          have HMO6 : Hid (OwnI w6 w4.heap.size A1 n1 c1 q2) := hmo.out.below HW6.out
          have HGR6 : Hid (GrM w6 w4.heap.size (fun k => (Value.slice A1 n1 c1).ownBlock = some k) A' m c' is) := hgr.out.tch (Tch.of_below (S := fun k => (Value.slice A1 n1 c1).ownBlock = some k) HW6.out)
          have HB7 : Hid (Below w4.heap.size w4 w6) := hb.out.trans (HW6.out.mono hsx)
          have HSX : Hid (IS.AtS w6 (fun b => b < w6.heap.size ∧ ¬ (Value.slice A1 n1 c1).ownBlock = some b ∧ ¬ (Value.slice A' m c').ownBlock = some b) .i64 ⟨A6, n6, c6, F⟩) := by
            refine (HO6.out.atS (by omega) HFW.out).mono fun b hb => ⟨hb.2, fun q => ?_, fun q => ?_⟩
            · have := HX.out b q; have := hb.1; omega
            · have := HOB.out b q; have := hb.1; omega
          clear LP HFR hmo hgr hY HH HGW HBY HB6 HO6
          go_wp2_with (first
            | (at_builtin; refine wpList_pushGV rfl (.tmp 35) (.tmp 37) _ rfl w4.heap.size 35 (.slice none 0 0) 24 (by decide) rfl Try.underlying86 info_ints w6 A' m c' (is.map IS.v) (.slice A6 n6 c6) rfl rfl HGR6.out.own rfl (by omega) HB7.out.size ?_; intro g' c'' w9 ho9 ht9 hg9; have HGN : Hid (GrM w9 w4.heap.size (fun k => (Value.slice A1 n1 c1).ownBlock = some k) (some ⟨g', 0, none⟩) (m + 1) c'' (is ++ [(⟨A6, n6, c6, F⟩ : IS)])) := HGR6.out.push (fun k q => (World.ownsRow.lt HMO6.out k q).2) HSX.out ho9 ht9 hg9; have HMO9 : Hid (OwnI w9 w4.heap.size A1 n1 c1 q2) := ownsRow_apart HMO6.out fun g q => ht9.block g (World.ownsRow.lt HMO6.out g q).2 (fun q2 => HGR6.out.ox _ q2 q); have HB9 : Hid (Below w4.heap.size w4 w9) := HB7.out.trans (ht9.below HB7.out.size fun k q => (World.ownsRow.lt HGR6.out.own k q).1); have HR9 := Lib.hid (HGN.out.rd.2 ⟨A6, n6, c6, F⟩ (List.mem_append_right _ (List.mem_singleton.2 rfl))).2.2.1; clear ho9 ht9 hg9)
            | (at_builtin; refine wpList_catG rfl (.tmp 39) (.tmp 40) rfl w4.heap.size w9 A1 n1 c1 q2 A6 n6 c6 F rfl HMO9.out rfl HR9.out (by omega) (by omega) HB9.out.size ?_; intro g2 c2 w10 ho10 ht10 hg10; have HMON := Lib.hid ho10; have HGX : Hid (GrM w10 w4.heap.size (fun k => (Value.slice (some ⟨g2, 0, none⟩) (n1 + n6) c2).ownBlock = some k) (some ⟨g', 0, none⟩) (m + 1) c'' (is ++ [(⟨A6, n6, c6, F⟩ : IS)])) := gr_cat HGN.out ht10 hg10; have HBN : Hid (Below w4.heap.size w4 w10) := HB9.out.trans (ht10.below HB9.out.size fun k q => (World.ownsRow.lt HMO9.out k q).1); clear ho10 ht10 hg10))
          have HFN : Hid ((L.take (j + 1)).foldl (grpF ns level) ([], []) = ((is ++ [(⟨A6, n6, c6, F⟩ : IS)]).map IS.xs, q2 ++ F)) := by
            show _ = _
            rw [HF.out, List.map_append]; rfl
          clear HGN HMO9 HB9 HR9 HMO6 HGR6 HSX HF
          go_roundw
          case rel => exact ⟨j + 1, m + 1, some ⟨g', 0, none⟩, c'', is ++ [(⟨A6, n6, c6, F⟩ : IS)], some ⟨g2, 0, none⟩, n1 + n6, c2, q2 ++ F, by omega, by omega, by omega, by go_num, rfl, rfl, HFN, HMON, HGX, HBN⟩
          case measure => simp [intOf]; omega
    · obtain rfl : j = m4 := by omega
      have HFin : Hid (RetGr (grpI ns level) w (.returned (.slice A' m c')) wr) := by
        have h1 := hfr.out
        rw [List.take_of_length_le (by omega)] at h1
        refine ⟨_, _, _, is, rfl, hgr.out.rd.1, hgr.out.rd.2, by rw [HGI.out, h1], ?_⟩
        exact (HB.out.trans (HB4.out.mono hs1)).trans (hb.out.mono (by omega))
      clear hfr hgr hmo hb
      go_wp2_with fail
      go_ret
      exact HFin.out
theorem sameBr (xs : List Int) : sameB xs xs = true := by unfold sameB; exact decide_eq_true rfl
theorem run_one (w : World) (x : Int) : (Instr.buildSlice 35 1 #[(0, .int .i64 x)]).run Try.prog w = .ok (.slice (some ⟨w.heap.size, 0, none⟩) 1 1) (w.alloc (.cells #[.int .i64 x] 3)) := by
  obtain ⟨i, hi, hz, hz1, hz2⟩ := info_parts info_int
  refine Go.run_buildSlice w _ _ 1 _ _ i (.int .i64 0) Try.underlying35 hi hz (by rw [hz1]; decide) (by rw [hz1]; decide) ?_
  rw [hz1]; kernel_rfl
theorem exec_one {o : Oper} {a : Act} {x : Int} {parts : Array (Nat × Operand)} (ho : o.op = .buildSlice 35 1 parts) (hp : (parts.map fun (i, y) => (i, a.eval y)) = #[(0, .int .i64 x)]) (w : World) : (execOp a.eval o).run Try.prog w = .ok (.value (.slice (some ⟨w.heap.size, 0, none⟩) 1 1)) (w.alloc (.cells #[.int .i64 x] 3)) := by
  unfold execOp
  simp only [ho, hp, Sem.run_bind, run_one, Result.andThen_ok]
  rfl
theorem whole_eq {ns : List ND} {m k : Nat} (h1 : (fromI ns 0 [0]).length = m) (h2 : (liveI ns).length = k) : ((m : Int) == (k : Int)) = wholeI ns := by
  unfold wholeI
  rw [h1, h2, Bool.eq_iff_iff, beq_iff_eq, decide_eq_true_iff]
  omega
set_option maxRecDepth 100000 in
set_option maxHeartbeats 1000000 in
theorem pl_whole (d : Nat) (A : Option Addr) (n c : Nat) (ns : List ND) (en tp : Int) (w : World) (hg : PgAt w w.heap.size A n c ns) (hd : ∀ s, (nearI ns s 0).length ≤ d) (hC : (1 + ns.length) + d * (1 + ns.length) ≤ 1048576) :
    Calls Try.prog 59 #[.agg (pgL A n c en tp)] w (RetB (wholeI ns) w) := by
  obtain ⟨w1, hw1⟩ : ∃ x, w.alloc (.cells (pgL A n c en tp) 56) = x := ⟨_, rfl⟩
  obtain ⟨C1, b1⟩ := box_plane hw1
  have HB := Lib.hid b1
  have HC := Lib.hid C1
  have HG := Lib.hid (hg.on b1 b1.size)
  clear hg C1 b1
  unfold pgL at hw1 ⊢
  go_enter Try.func59, Try.ntmps59
  go_upto_region 1 with fail
  (try rw [hw1])
  clear hw1
  refine wp_region_held_drew (S := fun w' => Below w1.heap.size w1 w') (by kernel_rfl) (below_drewN (Below.refl _ w1) 1) (fun hH => ?_)
  refine wpAnyH_take (i := 0) (v := .agg (pgL A n c en tp)) rfl (by kernel_rfl) (by kernel_rfl) (by kernel_rfl) (fun _ _ _ h => h) (yieldsIf_loadP (by rfl) _ rfl rfl (fun _ q => plane_load (HC.out.below q HC.out.lt))) hH ?_
  (try simp only [List.getElem_toArray, List.getElem_cons_zero, Act.put, List.setIfInBounds_toArray, List.set_cons_zero, List.set_cons_succ])
  refine wpAnyH_take (i := 4) (v := .agg (pgL A n c en tp)) rfl (by kernel_rfl) (by kernel_rfl) (by kernel_rfl) (fun _ _ _ h => h) (yieldsIf_loadP (by rfl) _ rfl rfl (fun _ q => plane_load (HC.out.below q HC.out.lt))) hH ?_
  (try simp only [List.getElem_toArray, List.getElem_cons_zero, List.getElem_cons_succ, Act.put, List.setIfInBounds_toArray, List.set_cons_zero, List.set_cons_succ])
  obtain ⟨Z0, hZ0⟩ : ∃ x, w1.drew = x := ⟨_, rfl⟩
  rw [hZ0] at hH ⊢
  have h1 : Below w1.heap.size w1 (Z0.alloc (.cells #[.int .i64 0] 3)) := hH.alloc hH.size _
  refine wpAnyH_make 1 (.slice (some ⟨Z0.heap.size, 0, none⟩) 1 1) (by kernel_rfl) (by rfl) (by kernel_rfl) (exec_one (by rfl) (by kernel_rfl) Z0) h1 ?_
  (try simp only [List.getElem_toArray, List.getElem_cons_zero, List.getElem_cons_succ, Act.put, List.setIfInBounds_toArray, List.set_cons_zero, List.set_cons_succ])
  have hR1 := rd_one Z0 0
  obtain ⟨Z1, hZ1⟩ : ∃ x, Z0.alloc (.cells #[.int .i64 0] 3) = x := ⟨_, rfl⟩
  rw [hZ1] at hR1 h1 ⊢
  clear hH
  refine wpAnyH_call 2 54 #[.agg (pgL A n c en tp), .slice (some ⟨Z0.heap.size, 0, none⟩) 1 1, .int .i64 0] _ (by kernel_rfl) (by rfl) (by kernel_rfl) (by kernel_rfl) (pl_from d A n c ns en tp 0 _ 1 1 [0] _ (HG.out.on h1 h1.size) hR1 (by intro x hx; rw [List.mem_singleton] at hx; subst hx; decide) hd (by simpa using (show 1 + d * (1 + ns.length) ≤ 1048576 by omega))) ?_
  rintro e Z2 ⟨A2, m2, c2, rfl, ho2, bz⟩
  have h2 : Below w1.heap.size w1 Z2 := h1.trans (bz.mono h1.size)
  have HL2 := Lib.hid ho2.len
  clear bz ho2
  refine ⟨_, rfl, h2, ?_⟩
  clear h1
  (try simp only [List.getElem_toArray, List.getElem_cons_zero, List.getElem_cons_succ, Act.put, List.setIfInBounds_toArray, List.set_cons_zero, List.set_cons_succ])
  refine wpAnyH_take (i := 3) (v := .int .i64 m2) rfl (by kernel_rfl) (by kernel_rfl) (by kernel_rfl) (fun _ _ _ h => h) (.inl ⟨by rfl, fun _ _ => by kernel_rfl⟩) h2 ?_
  (try simp only [List.getElem_toArray, List.getElem_cons_zero, List.getElem_cons_succ, Act.put, List.setIfInBounds_toArray, List.set_cons_zero, List.set_cons_succ])
  refine wpAnyH_call 5 27 #[.agg (pgL A n c en tp)] _ (by kernel_rfl) (by rfl) (by kernel_rfl) (by kernel_rfl) (pl_live A n c ns en tp _ (HG.out.on h2 h2.size)) ?_
  rintro e Z3 ⟨A3, m3, c3, rfl, ho3, bz⟩
  have h3 : Below w1.heap.size w1 Z3 := h2.trans (bz.mono h2.size)
  have HL3 := Lib.hid ho3.len
  clear bz ho3
  refine ⟨_, rfl, h3, ?_⟩
  clear h2
  (try simp only [List.getElem_toArray, List.getElem_cons_zero, List.getElem_cons_succ, Act.put, List.setIfInBounds_toArray, List.set_cons_zero, List.set_cons_succ])
  refine wpAnyH_take (i := 6) (v := .int .i64 m3) rfl (by kernel_rfl) (by kernel_rfl) (by kernel_rfl) (fun _ _ _ h => h) (.inl ⟨by rfl, fun _ _ => by kernel_rfl⟩) h3 ?_
  (try simp only [List.getElem_toArray, List.getElem_cons_zero, List.getElem_cons_succ, Act.put, List.setIfInBounds_toArray, List.set_cons_zero, List.set_cons_succ])
  refine wpAnyH_take (i := 7) (v := .bool (wholeI ns)) rfl (by kernel_rfl) (by kernel_rfl) (by kernel_rfl) (fun _ _ _ h => h) (yieldsIf_eqlR (by rfl) _ _ rfl rfl rfl (whole_eq HL2.out HL3.out)) h3 ?_
  (try simp only [List.getElem_toArray, List.getElem_cons_zero, List.getElem_cons_succ, Act.put, List.setIfInBounds_toArray, List.set_cons_zero, List.set_cons_succ])
  refine wpAnyH_take (i := 8) (v := .bool (wholeI ns)) rfl (by kernel_rfl) (by kernel_rfl) (by kernel_rfl) (fun _ _ _ h => h) (.inl ⟨by rfl, fun _ _ => by kernel_rfl⟩) h3 ?_
  (try simp only [List.getElem_toArray, List.getElem_cons_zero, List.getElem_cons_succ, Act.put, List.setIfInBounds_toArray, List.set_cons_zero, List.set_cons_succ])
  refine wpAnyH_done (by kernel_rfl) ?_ _
  go_wp2_with fail
  go_ret
  exact ⟨rfl, HB.out.trans (h3.mono HB.out.size)⟩
set_option maxRecDepth 100000 in
set_option maxHeartbeats 1000000 in
theorem rf_whole (d : Nat) (A : Option Addr) (n c : Nat) (ns : List ND) (en tp : Int) (w : World) (hg : PgAt w w.heap.size A n c ns) (hd : ∀ s, (nearI ns s 0).length ≤ d) (hC : (1 + ns.length) + d * (1 + ns.length) ≤ 1048576) :
    Calls Try.prog 60 #[.agg (pgL A n c en tp)] w (RetB (wholeI ns) w) := by
  obtain ⟨w1, hw1⟩ : ∃ x, w.alloc (.cells (pgL A n c en tp) 56) = x := ⟨_, rfl⟩
  obtain ⟨C1, b1⟩ := box_plane hw1
  have HB := Lib.hid b1
  have HC := Lib.hid C1
  have HG := Lib.hid (hg.on b1 b1.size)
  clear hg C1 b1
  unfold pgL at hw1 ⊢
  go_enter Try.func60, Try.ntmps60
  go_upto_region 1 with fail
  (try rw [hw1])
  clear hw1
  refine wp_region_held_drew (S := fun w' => Below w1.heap.size w1 w') (by kernel_rfl) (below_drewN (Below.refl _ w1) 1) (fun hH => ?_)
  refine wpAnyH_take (i := 0) (v := .agg (pgL A n c en tp)) rfl (by kernel_rfl) (by kernel_rfl) (by kernel_rfl) (fun _ _ _ h => h) (yieldsIf_loadP (by rfl) _ rfl rfl (fun _ q => plane_load (HC.out.below q HC.out.lt))) hH ?_
  (try simp only [List.getElem_toArray, List.getElem_cons_zero, Act.put, List.setIfInBounds_toArray, List.set_cons_zero, List.set_cons_succ])
  refine wpAnyH_take (i := 4) (v := .agg (pgL A n c en tp)) rfl (by kernel_rfl) (by kernel_rfl) (by kernel_rfl) (fun _ _ _ h => h) (yieldsIf_loadP (by rfl) _ rfl rfl (fun _ q => plane_load (HC.out.below q HC.out.lt))) hH ?_
  (try simp only [List.getElem_toArray, List.getElem_cons_zero, List.getElem_cons_succ, Act.put, List.setIfInBounds_toArray, List.set_cons_zero, List.set_cons_succ])
  obtain ⟨Z0, hZ0⟩ : ∃ x, w1.drew = x := ⟨_, rfl⟩
  rw [hZ0] at hH ⊢
  have h1 : Below w1.heap.size w1 (Z0.alloc (.cells #[.int .i64 0] 3)) := hH.alloc hH.size _
  refine wpAnyH_make 1 (.slice (some ⟨Z0.heap.size, 0, none⟩) 1 1) (by kernel_rfl) (by rfl) (by kernel_rfl) (exec_one (by rfl) (by kernel_rfl) Z0) h1 ?_
  (try simp only [List.getElem_toArray, List.getElem_cons_zero, List.getElem_cons_succ, Act.put, List.setIfInBounds_toArray, List.set_cons_zero, List.set_cons_succ])
  have hR1 := rd_one Z0 0
  obtain ⟨Z1, hZ1⟩ : ∃ x, Z0.alloc (.cells #[.int .i64 0] 3) = x := ⟨_, rfl⟩
  rw [hZ1] at hR1 h1 ⊢
  clear hH
  refine wpAnyH_call 2 55 #[.agg (pgL A n c en tp), .slice (some ⟨Z0.heap.size, 0, none⟩) 1 1, .int .i64 0] _ (by kernel_rfl) (by rfl) (by kernel_rfl) (by kernel_rfl) (rf_from d A n c ns en tp 0 _ 1 1 [0] _ (HG.out.on h1 h1.size) hR1 (fun q => by cases q) hd hC) ?_
  rintro e Z2 ⟨A2, m2, c2, rfl, ho2, bz⟩
  have h2 : Below w1.heap.size w1 Z2 := h1.trans (bz.mono h1.size)
  have HL2 := Lib.hid ho2.len
  clear bz ho2
  refine ⟨_, rfl, h2, ?_⟩
  clear h1
  (try simp only [List.getElem_toArray, List.getElem_cons_zero, List.getElem_cons_succ, Act.put, List.setIfInBounds_toArray, List.set_cons_zero, List.set_cons_succ])
  refine wpAnyH_take (i := 3) (v := .int .i64 m2) rfl (by kernel_rfl) (by kernel_rfl) (by kernel_rfl) (fun _ _ _ h => h) (.inl ⟨by rfl, fun _ _ => by kernel_rfl⟩) h2 ?_
  (try simp only [List.getElem_toArray, List.getElem_cons_zero, List.getElem_cons_succ, Act.put, List.setIfInBounds_toArray, List.set_cons_zero, List.set_cons_succ])
  refine wpAnyH_call 5 28 #[.agg (pgL A n c en tp)] _ (by kernel_rfl) (by rfl) (by kernel_rfl) (by kernel_rfl) (rf_live A n c ns en tp _ (HG.out.on h2 h2.size)) ?_
  rintro e Z3 ⟨A3, m3, c3, rfl, ho3, bz⟩
  have h3 : Below w1.heap.size w1 Z3 := h2.trans (bz.mono h2.size)
  have HL3 := Lib.hid ho3.len
  clear bz ho3
  refine ⟨_, rfl, h3, ?_⟩
  clear h2
  (try simp only [List.getElem_toArray, List.getElem_cons_zero, List.getElem_cons_succ, Act.put, List.setIfInBounds_toArray, List.set_cons_zero, List.set_cons_succ])
  refine wpAnyH_take (i := 6) (v := .int .i64 m3) rfl (by kernel_rfl) (by kernel_rfl) (by kernel_rfl) (fun _ _ _ h => h) (.inl ⟨by rfl, fun _ _ => by kernel_rfl⟩) h3 ?_
  (try simp only [List.getElem_toArray, List.getElem_cons_zero, List.getElem_cons_succ, Act.put, List.setIfInBounds_toArray, List.set_cons_zero, List.set_cons_succ])
  refine wpAnyH_take (i := 7) (v := .bool (wholeI ns)) rfl (by kernel_rfl) (by kernel_rfl) (by kernel_rfl) (fun _ _ _ h => h) (yieldsIf_eqlR (by rfl) _ _ rfl rfl rfl (whole_eq HL2.out HL3.out)) h3 ?_
  (try simp only [List.getElem_toArray, List.getElem_cons_zero, List.getElem_cons_succ, Act.put, List.setIfInBounds_toArray, List.set_cons_zero, List.set_cons_succ])
  refine wpAnyH_take (i := 8) (v := .bool (wholeI ns)) rfl (by kernel_rfl) (by kernel_rfl) (by kernel_rfl) (fun _ _ _ h => h) (.inl ⟨by rfl, fun _ _ => by kernel_rfl⟩) h3 ?_
  (try simp only [List.getElem_toArray, List.getElem_cons_zero, List.getElem_cons_succ, Act.put, List.setIfInBounds_toArray, List.set_cons_zero, List.set_cons_succ])
  refine wpAnyH_done (by kernel_rfl) ?_ _
  go_wp2_with fail
  go_ret
  exact ⟨rfl, HB.out.trans (h3.mono HB.out.size)⟩
set_option maxRecDepth 100000 in
set_option maxHeartbeats 1000000 in
theorem same_lists (A1 A2 : Option Addr) (n m c1 c2 : Nat) (is ks : List IS) (w : World) (h1 : Rd w w.heap.size A1 n (is.map IS.v)) (h2 : Rd w w.heap.size A2 m (ks.map IS.v)) (hi : ∀ l ∈ is, l.At w w.heap.size .i64) (hk : ∀ l ∈ ks, l.At w w.heap.size .i64)
    (he : is.map IS.xs = ks.map IS.xs) (hn : n ≤ 1048576) : Calls Try.prog 56 #[.slice A1 n c1, .slice A2 m c2] w (RetB true w) := by
  have hl1 : is.length = n := by simpa using h1.len
  have hl2 : ks.length = m := by simpa using h2.len
  have hl3 := congrArg List.length he
  rw [List.length_map, List.length_map] at hl3
  obtain rfl : n = m := by omega
  have H1 := Lib.hid h1
  have H2 := Lib.hid h2
  have HI := Lib.hid hi
  have HK := Lib.hid hk
  have HE := Lib.hid he
  clear h1 h2 hi hk he hl3
  go_enter Try.func56, Try.ntmps56
  go_wp2_with fail
  go_loopw [5, 13] (fun _ s13 wr => ∃ j : Nat, j ≤ n ∧ s13 = .int .i64 j ∧ Hid (Below w.heap.size w wr)) (fun _ s13 _ => n - (intOf s13).toNat)
  case atStart => exact ⟨0, Nat.zero_le _, rfl, Lib.hid (Below.refl _ _)⟩
  case round =>
    obtain ⟨j, hj, rfl, hb⟩ := hrel
    have hsx := hb.out.size
    by_cases hlt : j < n
    · obtain ⟨b1, o1, u, rfl, hb1, hu, hc1⟩ := H1.out.at_ hlt
      obtain ⟨b2, o2, u2, rfl, hb2, hu2, hc2⟩ := H2.out.at_ hlt
      rw [List.getElem?_map] at hu hu2
      obtain ⟨⟨A3, n3, c3, x3⟩, hi3, rfl⟩ := Option.map_eq_some_iff.1 hu
      obtain ⟨⟨A4, n4, c4, x4⟩, hk4, rfl⟩ := Option.map_eq_some_iff.1 hu2
      have hxx : x3 = x4 := by
        have h1 := congrArg (fun l => l[j]?) HE.out
        simp only [List.getElem?_map, hi3, hk4, Option.map_some, Option.some.injEq] at h1
        exact h1
      subst hxx
      have hI3 := HI.out _ (List.mem_of_getElem? hi3)
      have hK4 := HK.out _ (List.mem_of_getElem? hk4)
      have HR3 := Lib.hid ((hI3.2.2.1.below hb.out).more hsx)
      have HR4 := Lib.hid ((hK4.2.2.1.below hb.out).more hsx)
      have HN3 : Hid (n3 ≤ 4611686018427387904) := by have := hI3.2.1; show _ ≤ _; simp only at this; omega
      have HN4 : Hid (n4 ≤ 4611686018427387904) := by have := hK4.2.1; show _ ≤ _; simp only at this; omega
      have HC3 : Hid (∀ Y, Below wr.heap.size wr Y → Y.cell? ⟨b1, o1 + j * 1, none⟩ = some (.slice A3 n3 c3)) := fun Y hY => by
        rw [Nat.mul_one]
        exact (hY.cell (p := ⟨b1, o1 + j, none⟩) (by show b1 < _; omega)).trans ((hb.out.cell (p := ⟨b1, o1 + j, none⟩) hb1).trans hc1)
      have HC4 : Hid (∀ Y, Below wr.heap.size wr Y → Y.cell? ⟨b2, o2 + j * 1, none⟩ = some (.slice A4 n4 c4)) := fun Y hY => by
        rw [Nat.mul_one]
        exact (hY.cell (p := ⟨b2, o2 + j, none⟩) (by show b2 < _; omega)).trans ((hb.out.cell (p := ⟨b2, o2 + j, none⟩) hb2).trans hc2)
      clear hI3 hK4 hi3 hk4 hu hu2 hc1 hc2
      go_upto_region 6 with fail
      refine wp_region_held_drew (S := fun w' => Below wr.heap.size wr w') (by kernel_rfl) (below_drewN (Below.refl _ wr) 1) (fun hH => ?_)
      refine wpAnyH_take (i := 0) (v := .slice (some ⟨b1, o1, none⟩) n c1) rfl (by kernel_rfl) (by kernel_rfl) (by kernel_rfl) (fun _ _ _ h => h) (.inl ⟨by rfl, fun _ _ => by kernel_rfl⟩) hH ?_
      (try simp only [List.getElem_toArray, List.getElem_cons_zero, Act.put, List.setIfInBounds_toArray, List.set_cons_zero, List.set_cons_succ])
      refine wpAnyH_take (i := 1) (v := .int .i64 (j : Int)) rfl (by kernel_rfl) (by kernel_rfl) (by kernel_rfl) (fun _ _ _ h => h) (.inl ⟨by rfl, fun _ _ => by kernel_rfl⟩) hH ?_
      (try simp only [List.getElem_toArray, List.getElem_cons_zero, List.getElem_cons_succ, Act.put, List.setIfInBounds_toArray, List.set_cons_zero, List.set_cons_succ])
      refine wpAnyH_take (i := 2) (v := .pointer (some ⟨b1, o1 + j * 1, none⟩)) rfl (by kernel_rfl) (by kernel_rfl) (by kernel_rfl) (fun _ _ _ h => h) (yieldsIf_index Try.underlying86 sz_list (by rfl) _ _ rfl rfl rfl hlt) hH ?_
      (try simp only [List.getElem_toArray, List.getElem_cons_zero, List.getElem_cons_succ, Act.put, List.setIfInBounds_toArray, List.set_cons_zero, List.set_cons_succ])
      refine wpAnyH_take (i := 3) (v := .slice A3 n3 c3) rfl (by kernel_rfl) (by kernel_rfl) (by kernel_rfl) (fun _ _ _ h => h) (yieldsIf_loadP (by rfl) _ rfl rfl (fun _ q => load_ints (HC3.out _ q))) hH ?_
      (try simp only [List.getElem_toArray, List.getElem_cons_zero, List.getElem_cons_succ, Act.put, List.setIfInBounds_toArray, List.set_cons_zero, List.set_cons_succ])
      refine wpAnyH_take (i := 4) (v := .slice (some ⟨b2, o2, none⟩) n c2) rfl (by kernel_rfl) (by kernel_rfl) (by kernel_rfl) (fun _ _ _ h => h) (.inl ⟨by rfl, fun _ _ => by kernel_rfl⟩) hH ?_
      (try simp only [List.getElem_toArray, List.getElem_cons_zero, List.getElem_cons_succ, Act.put, List.setIfInBounds_toArray, List.set_cons_zero, List.set_cons_succ])
      refine wpAnyH_take (i := 5) (v := .int .i64 (j : Int)) rfl (by kernel_rfl) (by kernel_rfl) (by kernel_rfl) (fun _ _ _ h => h) (.inl ⟨by rfl, fun _ _ => by kernel_rfl⟩) hH ?_
      (try simp only [List.getElem_toArray, List.getElem_cons_zero, List.getElem_cons_succ, Act.put, List.setIfInBounds_toArray, List.set_cons_zero, List.set_cons_succ])
      refine wpAnyH_take (i := 6) (v := .pointer (some ⟨b2, o2 + j * 1, none⟩)) rfl (by kernel_rfl) (by kernel_rfl) (by kernel_rfl) (fun _ _ _ h => h) (yieldsIf_index Try.underlying86 sz_list (by rfl) _ _ rfl rfl rfl hlt) hH ?_
      (try simp only [List.getElem_toArray, List.getElem_cons_zero, List.getElem_cons_succ, Act.put, List.setIfInBounds_toArray, List.set_cons_zero, List.set_cons_succ])
      refine wpAnyH_take (i := 7) (v := .slice A4 n4 c4) rfl (by kernel_rfl) (by kernel_rfl) (by kernel_rfl) (fun _ _ _ h => h) (yieldsIf_loadP (by rfl) _ rfl rfl (fun _ q => load_ints (HC4.out _ q))) hH ?_
      (try simp only [List.getElem_toArray, List.getElem_cons_zero, List.getElem_cons_succ, Act.put, List.setIfInBounds_toArray, List.set_cons_zero, List.set_cons_succ])
      refine wpAnyH_call 8 26 #[.slice A3 n3 c3, .slice A4 n4 c4] _ (by kernel_rfl) (by rfl) (by kernel_rfl) (by kernel_rfl) (same_ints A3 A4 n3 n4 c3 c4 wr.heap.size _ _ _ (HR3.out.below hH) (HR4.out.below hH) HN3.out HN4.out) ?_
      rintro e Z1 ⟨rfl, q, rfl⟩
      have h1 := below_drewN hH q
      rw [sameBr]
      refine ⟨_, rfl, h1, ?_⟩
      clear hH
      (try simp only [List.getElem_toArray, List.getElem_cons_zero, List.getElem_cons_succ, Act.put, List.setIfInBounds_toArray, List.set_cons_zero, List.set_cons_succ])
      refine wpAnyH_take (i := 9) (v := .bool false) rfl (by kernel_rfl) (by kernel_rfl) (by kernel_rfl) (fun _ _ _ h => h) (.inl ⟨by rfl, fun _ _ => by kernel_rfl⟩) h1 ?_
      (try simp only [List.getElem_toArray, List.getElem_cons_zero, List.getElem_cons_succ, Act.put, List.setIfInBounds_toArray, List.set_cons_zero, List.set_cons_succ])
      refine wpAnyH_done (by kernel_rfl) ?_ _
      have HBN := Lib.hid (below_drewN hb.out (1 + q))
      clear hb h1
      go_wp2_with fail
      go_roundw
      case rel => exact ⟨j + 1, by omega, by go_num, HBN⟩
      case measure => simp [intOf]; omega
    · obtain rfl : j = n := by omega
      go_wp2_with fail
      go_ret
      exact ⟨rfl, hb.out⟩
theorem nodup_with {l : List Int} (h : l.Nodup) (v : Int) : (withI l v).Nodup := by
  unfold withI
  split
  · exact h
  · rename_i q
    rw [hasI_iff] at q
    refine List.nodup_append.2 ⟨h, by simp, fun a ha b hb e => ?_⟩
    simp only [List.mem_singleton] at hb
    subst hb; subst e
    exact q ha
theorem nodup_kept (ns : List ND) (l : List Int) : ∀ k, k ≤ l.length → (keptI (nearQ ns l) l k).Nodup
  | 0, _ => List.nodup_nil
  | k + 1, h => by
    rw [kept_with ns l (show k < l.length by omega)]
    split
    · exact nodup_with (nodup_kept ns l k (by omega)) _
    · exact nodup_kept ns l k (by omega)
theorem nodup_near (ns : List ND) (s level : Int) : (nearI ns s level).Nodup := by
  unfold nearI
  split
  · exact nodup_kept ns _ _ (Nat.le_refl _)
  · exact List.nodup_nil
theorem near_le (ns : List ND) (s level : Int) : (nearI ns s level).length ≤ ns.length :=
  Nat.le_trans (len_sub _ _ (nodup_near ns s level) fun _ hx => mem_liveI.2 (near_there hx)) (liveI_le ns)
theorem sq_le {m n : Nat} (hn : n ≤ 1000) (hm : m ≤ 30) : (m + n) + n * (m + n) ≤ 1048576 := by
  have h1 : n * (m + n) ≤ 1000 * 1030 := Nat.mul_le_mul hn (by omega)
  omega
theorem sq_le2 {m n : Nat} (hn : n ≤ 1000) (hm : m ≤ 30) : m + n * (m + n) ≤ 1048576 := by have := sq_le hn hm; omega
section
variable {ns ns' : List ND}
theorem Eqv.bI (h : Eqv ns ns') (level : Int) (xs : List Int) : ∀ k, bI ns level xs k = Proofs.Ytkhnnjeinpojkaa.bI ns' level xs k
  | 0 => rfl
  | k + 1 => by
    show stepI ns level (Proofs.Ytkhnnjeinpojkaa.bI ns level xs k) = stepI ns' level (Proofs.Ytkhnnjeinpojkaa.bI ns' level xs k)
    rw [h.bI level xs k]
    unfold stepI
    congr 1
    funext out x
    rw [h.near]
theorem Eqv.cl (h : Eqv ns ns') (level : Int) (xs : List Int) : clI ns level xs = clI ns' level xs := by unfold clI; rw [h.len, h.bI]
theorem Eqv.from_ (h : Eqv ns ns') (level : Int) (xs : List Int) : fromI ns level xs = fromI ns' level xs := by unfold fromI; rw [h.live, h.cl]
theorem Eqv.whole (h : Eqv ns ns') : wholeI ns = wholeI ns' := by unfold wholeI; rw [h.from_, h.live]
theorem Eqv.grp (h : Eqv ns ns') (level : Int) : grpI ns level = grpI ns' level := by
  unfold grpI
  rw [h.live]
  congr 2
  funext p s
  unfold grpF
  rw [h.from_, nm_level (h.nAt _)]
theorem Eqv.st (h : Eqv ns ns') {level a b r : Int} {is : Bool} (q : StR ns level a b r is) : StR ns' level a b r is := by
  unfold StR at q ⊢
  simp only [h.bI, h.cl, h.thB] at q
  exact q
end
section
variable {w : World} {g n c : Nat} {en tp : Int} {L : List ND}
theorem from_e (h : PgE w g n c L) (hL : L.length ≤ 1000) (level : Int) (sA : Option Addr) (sn sc : Nat) (xs : List Int) (hr : Rd w w.heap.size sA sn (xs.map (.int .i64))) (hwf : ∀ x ∈ xs, (Lit.int .i64 x).wf = true) (hs : sn ≤ 30) {y : List Int} (hy : fromI L level xs = y) :
    Calls Try.prog 54 #[.agg #[.slice (some ⟨g, 0, none⟩) n c, .int .i64 en, .int .i64 tp], .slice sA sn sc, .int .i64 level] w (RetI y w) := by
  obtain ⟨ns, h1, h2⟩ := h
  rw [← hy, h2.from_]
  have h3 := h2.len
  have h4 := hr.lenI
  exact pl_from ns.length _ _ _ _ _ _ _ _ _ _ _ _ h1 hr hwf (fun s => near_le ns s level) (by rw [h4]; exact sq_le2 (by omega) hs)
theorem from_lit (h : PgE w g n c L) (hL : L.length ≤ 1000) (level : Int) (xs : List Int) (m : Nat) (hm : xs.length = m) (hm2 : m ≤ 30) (hwf : ∀ x ∈ xs, (Lit.int .i64 x).wf = true) {y : List Int} (hy : fromI L level xs = y) :
    Calls Try.prog 54 #[.agg #[.slice (some ⟨g, 0, none⟩) n c, .int .i64 en, .int .i64 tp], .slice (some ⟨w.heap.size, 0, none⟩) m m, .int .i64 level] (w.alloc (.cells (xs.map (Value.int .i64)).toArray 3)) (RetI y (w.alloc (.cells (xs.map (Value.int .i64)).toArray 3))) :=
  from_e (h.below (bel_box _ _)) hL level _ _ _ xs (ints_at_lits w xs m hm) hwf hm2 hy
theorem whole_e (h : PgE w g n c L) (hL : L.length ≤ 1000) {y : Bool} (hy : wholeI L = y) : Calls Try.prog 59 #[.agg #[.slice (some ⟨g, 0, none⟩) n c, .int .i64 en, .int .i64 tp]] w (RetB y w) := by
  obtain ⟨ns, h1, h2⟩ := h
  rw [← hy, h2.whole]
  have h3 := h2.len
  exact pl_whole ns.length _ _ _ _ _ _ _ h1 (fun s => near_le ns s 0) (sq_le (by omega) (by decide))
theorem whole_0 : Calls Try.prog 59 #[.agg #[.slice none 0 0, .int .i64 0, .int .i64 0]] w (RetB true w) :=
  pl_whole 0 none 0 0 [] 0 0 w ⟨fun _ => ⟨rfl, rfl⟩, Nat.zero_le _, Rs.nil_, fun d hd => by cases hd⟩ (fun s => near_le [] s 0) (by decide)
theorem groups_e (h : PgE w g n c L) (hL : L.length ≤ 1000) (level : Int) {y : List (List Int)} (hy : grpI L level = y) : Calls Try.prog 57 #[.agg #[.slice (some ⟨g, 0, none⟩) n c, .int .i64 en, .int .i64 tp], .int .i64 level] w (RetGr y w) := by
  obtain ⟨ns, h1, h2⟩ := h
  rw [← hy, h2.grp]
  have h3 := h2.len
  exact pl_groups ns.length _ _ _ _ _ _ _ _ h1 (fun s => near_le ns s level) (sq_le2 (by omega) (by decide)) (by omega)
theorem steps_e (h : PgE w g n c L) (hL : L.length ≤ 1000) (a b level : Int) (ha : (Lit.int .i64 a).wf = true) {r : Int} {is : Bool} (hy : StR L level a b r is) : Calls Try.prog 52 #[.agg #[.slice (some ⟨g, 0, none⟩) n c, .int .i64 en, .int .i64 tp], .int .i64 a, .int .i64 b, .int .i64 level] w (fun e w' => e = .returned (.tuple #[.int .i64 r, .bool is]) ∧ Below w.heap.size w w') := by
  obtain ⟨ns, h1, h2⟩ := h
  have h3 := h2.len
  refine (pl_steps ns.length _ _ _ _ _ _ a b level _ h1 ha (fun s => near_le ns s level) (sq_le2 (by omega) (by decide))).mono ?_
  rintro e w' ⟨r', is', q1, q2, q3⟩
  obtain ⟨rfl, rfl⟩ := q2.uniq (h2.st hy)
  exact ⟨q1, q3⟩
end
def rq1 : List ND := putSt [nd0] 1 (putND [nd0] 7 0 [] 0 1)
def rq2 : List ND := putSt rq1 2 (putND rq1 8 0 [] 0 1)
theorem rp1 : putW [nd0] 2 0 0 1 7 = 0 ∧ slotI [nd0] = 1 := by decide +kernel
theorem rp2 : putW rq1 2 0 0 1 8 = 0 ∧ slotI rq1 = 2 := by decide +kernel
theorem rp3 : fromI rq2 0 [0] = [1, 2] ∧ fromI rq2 0 [] = [] ∧ wholeI rq2 = true ∧ rq2.length ≤ 1000 := by decide +kernel
theorem rp4 : grpI rq2 1 = [[1], [2]] ∧ grpI rq2 0 = [[1, 2]] ∧ grpI rq2 2 = [] := by decide +kernel
theorem rp5 : StR rq2 0 0 1 1 true := .inl ⟨rfl, by decide +kernel, 1, rfl, by decide +kernel, by
  intro j hj
  obtain rfl : j = 0 := by omega
  decide +kernel⟩
theorem rp6 : StR rq2 1 2 1 0 false := .inr ⟨rfl, rfl, .inr (by decide +kernel)⟩
theorem is_lit {w : World} {B : Nat} {A : Option Addr} {n : Nat} {xs : List Int} (hr : Rd w B A n (xs.map (.int .i64))) (hA : A ≠ none) (hn : n ≤ 100) (hwf : ∀ x ∈ xs, (Lit.int .i64 x).wf = true) : IS.At w B .i64 ⟨A, n, n, xs⟩ := ⟨fun e => absurd e hA, by show n ≤ _; omega, hr, hwf⟩
theorem rows_at {w : World} {t : Nat} {vs : List Value} : Rd (w.alloc (.cells vs.toArray t)) (w.alloc (.cells vs.toArray t)).heap.size (some ⟨w.heap.size, 0, none⟩) vs.length vs :=
  ⟨rfl, fun _ => ⟨w.heap.size, 0, rfl, (Blk.new w t vs.toArray).lt, fun j u hu => by
    rw [Nat.zero_add, (Blk.new w t vs.toArray).cell]
    simpa using hu⟩⟩
theorem same_g2 {w : World} {A : Option Addr} {n c : Nat} {is : List IS} {a b : Int} (hr : Rd w w.heap.size A n (is.map IS.v)) (hl : ∀ l ∈ is, l.At w w.heap.size .i64) (he : is.map IS.xs = [[a], [b]]) (ha : (Lit.int .i64 a).wf = true) (hb : (Lit.int .i64 b).wf = true) :
    Calls Try.prog 56 #[.slice A n c, .slice (some ⟨w.heap.size + 1 + 1, 0, none⟩) 2 2] (((w.alloc (.cells #[.int .i64 a] 3)).alloc (.cells #[.int .i64 b] 3)).alloc (.cells #[.slice (some ⟨w.heap.size, 0, none⟩) 1 1, .slice (some ⟨w.heap.size + 1, 0, none⟩) 1 1] 35)) (fun e w' => e = .returned (.bool true) ∧ Below w.heap.size w w') := by
  have h1 := rd_one w a
  have b1 := bel_box w (.cells #[.int .i64 a] 3)
  have s1 : (w.alloc (.cells #[.int .i64 a] 3)).heap.size = w.heap.size + 1 := by simp only [World.alloc, Array.size_push]
  generalize w.alloc (.cells #[.int .i64 a] 3) = w1 at *
  have h2 := rd_one w1 b
  have b2 := bel_box w1 (.cells #[.int .i64 b] 3)
  have s2 : (w1.alloc (.cells #[.int .i64 b] 3)).heap.size = w1.heap.size + 1 := by simp only [World.alloc, Array.size_push]
  generalize w1.alloc (.cells #[.int .i64 b] 3) = w2 at *
  rw [← s1, ← s2]
  have h3 := rows_at (w := w2) (t := 35) (vs := [.slice (some ⟨w.heap.size, 0, none⟩) 1 1, .slice (some ⟨w1.heap.size, 0, none⟩) 1 1])
  have b3 := bel_box w2 (.cells [Value.slice (some ⟨w.heap.size, 0, none⟩) 1 1, .slice (some ⟨w1.heap.size, 0, none⟩) 1 1].toArray 35)
  have hB : Below w.heap.size w (w2.alloc (.cells [Value.slice (some ⟨w.heap.size, 0, none⟩) 1 1, .slice (some ⟨w1.heap.size, 0, none⟩) 1 1].toArray 35)) := (b1.trans (b2.mono b1.size)).trans (b3.mono (Nat.le_trans b1.size b2.size))
  have k1 := is_lit (((h1.below b2).more b2.size |>.below b3).more b3.size) (by simp) (by decide) (by intro x hx; rw [List.mem_singleton] at hx; subst hx; exact ha)
  have k2 := is_lit ((h2.below b3).more b3.size) (by simp) (by decide) (by intro x hx; rw [List.mem_singleton] at hx; subst hx; exact hb)
  have hn : n ≤ 1048576 := by
    have e1 := hr.len
    have e2 := congrArg List.length he
    simp only [List.length_map, List.length_cons, List.length_nil] at e1 e2
    omega
  refine (same_lists A _ n 2 c 2 is [⟨some ⟨w.heap.size, 0, none⟩, 1, 1, [a]⟩, ⟨some ⟨w1.heap.size, 0, none⟩, 1, 1, [b]⟩] _ ((hr.below hB).more hB.size) h3 (fun l q => ((hl l q).below hB).more hB.size) ?_ he hn).mono ?_
  · intro l q
    rcases List.mem_cons.1 q with rfl | q
    · exact k1
    · rw [List.mem_singleton] at q; subst q; exact k2
  · rintro e w' ⟨rfl, hb'⟩
    exact ⟨rfl, hB.trans (hb'.mono hB.size)⟩
theorem same_g1 {w : World} {A : Option Addr} {n c : Nat} {is : List IS} (hr : Rd w w.heap.size A n (is.map IS.v)) (hl : ∀ l ∈ is, l.At w w.heap.size .i64) (he : is.map IS.xs = [[1, 2]]) :
    Calls Try.prog 56 #[.slice A n c, .slice (some ⟨w.heap.size + 1, 0, none⟩) 1 1] ((w.alloc (.cells #[.int .i64 1, .int .i64 2] 3)).alloc (.cells #[.slice (some ⟨w.heap.size, 0, none⟩) 2 2] 35)) (fun e w' => e = .returned (.bool true) ∧ Below w.heap.size w w') := by
  have h1 := rows_at (w := w) (t := 3) (vs := [1, 2].map (Value.int .i64))
  have b1 := bel_box w (.cells ([1, 2].map (Value.int .i64)).toArray 3)
  have s1 : (w.alloc (.cells ([1, 2].map (Value.int .i64)).toArray 3)).heap.size = w.heap.size + 1 := by simp only [World.alloc, Array.size_push]
  show Calls _ _ _ ((w.alloc (.cells ([1, 2].map (Value.int .i64)).toArray 3)).alloc _) _
  generalize w.alloc (.cells ([1, 2].map (Value.int .i64)).toArray 3) = w1 at *
  rw [← s1]
  have h3 := rows_at (w := w1) (t := 35) (vs := [.slice (some ⟨w.heap.size, 0, none⟩) 2 2])
  have b3 := bel_box w1 (.cells [Value.slice (some ⟨w.heap.size, 0, none⟩) 2 2].toArray 35)
  have hB : Below w.heap.size w (w1.alloc (.cells [Value.slice (some ⟨w.heap.size, 0, none⟩) 2 2].toArray 35)) := b1.trans (b3.mono b1.size)
  have k1 := is_lit ((h1.below b3).more b3.size) (by simp) (by decide) (by decide)
  have hn : n ≤ 1048576 := by
    have e1 := hr.len
    have e2 := congrArg List.length he
    simp only [List.length_map, List.length_cons, List.length_nil] at e1 e2
    omega
  refine (same_lists A _ n 1 c 1 is [⟨some ⟨w.heap.size, 0, none⟩, 2, 2, [1, 2]⟩] _ ((hr.below hB).more hB.size) h3 (fun l q => ((hl l q).below hB).more hB.size) ?_ he hn).mono ?_
  · intro l q
    rw [List.mem_singleton] at q; subst q; exact k1
  · rintro e w' ⟨rfl, hb'⟩
    exact ⟨rfl, hB.trans (hb'.mono hB.size)⟩
set_option maxRecDepth 100000 in
set_option maxHeartbeats 4000000 in
theorem lives16 (w : World) : Calls Try.prog 51 #[] w (RetB true w) := by
  have HB : Hid (Below w.heap.size w w) := Below.refl _ _
  go_enter Try.func51, Try.ntmps51
  have HC := Lib.hid (new_e (w := w))
  go_wp2_with (go_at_call 33; (with_reducible refine HC.out.mono ?_); rintro e W0 ⟨g0, n0, c0, rfl, hp0, hb⟩; have HP0 := Lib.hid hp0; replace HB := Lib.hid (HB.out.trans (hb.mono HB.out.size)); clear hp0 hb)
  clear HC
  have HC := Lib.hid (put_e HP0.out 2 1 7 none 0 0 [] 0 (vec0 W0) (by decide) rp1.1 rp1.2)
  go_wp2_with (first | ((with_reducible refine wpList_storeE (op := ⟨none, _, _, _, _, _⟩) SR ?s1X ?s1Y ?s1G ?s1O ?s1A ?s1B ?_); (case s1O => exact rfl); (case s1A => exact rfl); (case s1B => exact rfl); (case s1G => exact rfl)) | ((with_reducible refine wpList_loadE (op := ⟨some 19, _, _, _, _, _⟩) LP ?e2X ?e2G ?e2O ?e2E ?_); (case e2O => exact rfl); (case e2E => exact rfl); (case e2G => exact rfl)) | (go_at_call 34; (with_reducible refine HC.out.mono ?_); rintro e W1 ⟨g1, n1, c1, rfl, hp, hb⟩; replace HB := Lib.hid (HB.out.trans (hb.mono HB.out.size)); have SR := plane_put W1 (some ⟨g1, 0, none⟩) n1 c1 0 0; have NP := PV.new (en := 0) (tp := 0) hp; have NB := plane_bel W1 (some ⟨g1, 0, none⟩) n1 c1 0 0; obtain ⟨X1, hX⟩ : ∃ x, ((W1.alloc (.cells (pgL none 0 0 0 0) 56)).setCells W1.heap.size 0 (pgL (some ⟨g1, 0, none⟩) n1 c1 0 0).toList) = x := ⟨_, rfl⟩; rw [hX] at SR NP NB; replace HB := Lib.hid (HB.out.trans (NB.mono HB.out.size)); have Pa : Hid (PV X1 W1.heap.size g1 n1 c1 0 0 rq1) := NP; have LP := Pa.out.load; clear hX NP NB hp hb))
  clear HC SR LP
  clear HP0
  have HC := Lib.hid (put_e Pa.out.pge 2 1 8 none 0 0 [] 0 (vec0 X1) (by decide) rp2.1 rp2.2)
  go_wp2_with (first | ((with_reducible refine wpList_storeE (op := ⟨none, _, _, _, _, _⟩) SR ?s3X ?s3Y ?s3G ?s3O ?s3A ?s3B ?_); (case s3O => exact rfl); (case s3A => exact rfl); (case s3B => exact rfl); (case s3G => exact rfl)) | ((with_reducible refine wpList_loadE (op := ⟨some 26, _, _, _, _, _⟩) LP ?e4X ?e4G ?e4O ?e4E ?_); (case e4O => exact rfl); (case e4E => exact rfl); (case e4G => exact rfl)) | (go_at_call 34; (with_reducible refine HC.out.mono ?_); rintro e W2 ⟨g2, n2, c2, rfl, hp, hb⟩; replace Pa := Lib.hid (Pa.out.below hb); replace HB := Lib.hid (HB.out.trans (hb.mono HB.out.size)); have SR := plane_put W2 (some ⟨g2, 0, none⟩) n2 c2 0 0; have NP := PV.new (en := 0) (tp := 0) hp; have NB := plane_bel W2 (some ⟨g2, 0, none⟩) n2 c2 0 0; obtain ⟨X2, hX⟩ : ∃ x, ((W2.alloc (.cells (pgL none 0 0 0 0) 56)).setCells W2.heap.size 0 (pgL (some ⟨g2, 0, none⟩) n2 c2 0 0).toList) = x := ⟨_, rfl⟩; rw [hX] at SR NP NB; replace Pa := Lib.hid (Pa.out.below NB); replace HB := Lib.hid (HB.out.trans (NB.mono HB.out.size)); have Pb : Hid (PV X2 W2.heap.size g2 n2 c2 0 0 rq2) := NP; have LP := Pb.out.load; clear hX NP NB hp hb))
  clear HC SR LP
  clear Pa
  have HC := Lib.hid (steps_e (en := 0) (tp := 0) Pb.out.pge rp3.2.2.2 0 1 0 (by decide) rp5)
  go_wp2_with (first | ((with_reducible refine wpList_loadE (op := ⟨some 31, _, _, _, _, _⟩) LP ?e5X ?e5G ?e5O ?e5E ?_); (case e5O => exact rfl); (case e5E => exact rfl); (case e5G => exact rfl)) | (go_at_call 52; (with_reducible refine HC.out.mono ?_); rintro e W3 ⟨rfl, hb⟩; replace Pb := Lib.hid (Pb.out.below hb); replace HB := Lib.hid (HB.out.trans (hb.mono HB.out.size)); have LP := Pb.out.load; clear hb))
  clear HC LP
  have HC := Lib.hid (steps_e (en := 0) (tp := 0) Pb.out.pge rp3.2.2.2 2 1 1 (by decide) rp6)
  go_wp2_with (first | (go_at_call 52; (with_reducible refine HC.out.mono ?_); rintro e W4 ⟨rfl, hb⟩; replace Pb := Lib.hid (Pb.out.below hb); replace HB := Lib.hid (HB.out.trans (hb.mono HB.out.size)); have z0 : W4.cell? ⟨W2.heap.size, 0, none⟩ = some (.slice (some ⟨g2, 0, none⟩) n2 c2) := Pb.out.blk.cell 0; have z1 : W4.cell? ⟨W2.heap.size, 1, none⟩ = some (.int .i64 0) := Pb.out.blk.cell 1; have z2 : W4.cell? ⟨W2.heap.size, 2, none⟩ = some (.int .i64 0) := Pb.out.blk.cell 2; clear hb))
  clear HC z0 z1 z2
  have hbl := bel_box W4 (.cells ([0].map (Value.int .i64)).toArray 3)
  have HC := Lib.hid (from_lit (en := 0) (tp := 0) Pb.out.pge rp3.2.2.2 0 [0] 1 rfl (by decide) (by decide) rp3.1)
  replace Pb := Lib.hid (Pb.out.below hbl)
  replace HB := Lib.hid (HB.out.trans (hbl.mono HB.out.size))
  clear hbl
  go_wp2_with (first | (go_at_call 54; refine HC.out.mono ?_; rintro e W5 ⟨A5, m5, d5, rfl, ho5, hb⟩; replace Pb := Lib.hid (Pb.out.below hb); replace HB := Lib.hid (HB.out.trans (hb.mono HB.out.size)); have R5 := Lib.hid ho5.rd; have L5 := Lib.hid ho5.len; clear ho5; clear hb))
  clear HC
  have hbl := bel_box W5 (.cells ([1, 2].map (Value.int .i64)).toArray 3)
  have HC := Lib.hid (same_lit (c := d5) R5.out (by have h := L5.out; have h2 : ([1, 2] : List Int).length = m5 := h; have h3 : ([1, 2] : List Int).length = 2 := rfl; omega) [1, 2] 2 rfl (by decide) (sameBr [1, 2]))
  replace Pb := Lib.hid (Pb.out.below hbl)
  replace R5 := Lib.hid ((R5.out.below hbl).more hbl.size)
  replace HB := Lib.hid (HB.out.trans (hbl.mono HB.out.size))
  clear hbl
  go_wp2_with (first | (go_at_call 26; refine HC.out.mono ?_; rintro e W6 ⟨rfl, hb⟩; replace Pb := Lib.hid (Pb.out.below hb); replace R5 := Lib.hid ((R5.out.below hb).more hb.size); replace HB := Lib.hid (HB.out.trans (hb.mono HB.out.size)); have z0 : W6.cell? ⟨W2.heap.size, 0, none⟩ = some (.slice (some ⟨g2, 0, none⟩) n2 c2) := Pb.out.blk.cell 0; have z1 : W6.cell? ⟨W2.heap.size, 1, none⟩ = some (.int .i64 0) := Pb.out.blk.cell 1; have z2 : W6.cell? ⟨W2.heap.size, 2, none⟩ = some (.int .i64 0) := Pb.out.blk.cell 2; clear hb))
  clear HC z0 z1 z2
  clear R5 L5
  have HC := Lib.hid (whole_e (en := 0) (tp := 0) Pb.out.pge rp3.2.2.2 rp3.2.2.1)
  go_wp2_with (first | (go_at_call 59; (with_reducible refine HC.out.mono ?_); rintro e W7 ⟨rfl, hb⟩; replace Pb := Lib.hid (Pb.out.below hb); replace HB := Lib.hid (HB.out.trans (hb.mono HB.out.size)); have z0 : W7.cell? ⟨W2.heap.size, 0, none⟩ = some (.slice (some ⟨g2, 0, none⟩) n2 c2) := Pb.out.blk.cell 0; have z1 : W7.cell? ⟨W2.heap.size, 1, none⟩ = some (.int .i64 0) := Pb.out.blk.cell 1; have z2 : W7.cell? ⟨W2.heap.size, 2, none⟩ = some (.int .i64 0) := Pb.out.blk.cell 2; clear hb))
  clear HC z0 z1 z2
  have HC := Lib.hid (groups_e (en := 0) (tp := 0) Pb.out.pge rp3.2.2.2 1 rp4.1)
  go_wp2_with (first | (go_at_call 57; (with_reducible refine HC.out.mono ?_); rintro e W8 ⟨A8, m8, d8, is8, rfl, hr8, hl8, he8, hb⟩; replace Pb := Lib.hid (Pb.out.below hb); replace HB := Lib.hid (HB.out.trans (hb.mono HB.out.size)); have R8 := Lib.hid hr8; have L8 := Lib.hid hl8; have E8 := Lib.hid he8; clear hr8 hl8 he8; clear hb))
  clear HC
  have HC := Lib.hid (same_g2 (c := d8) R8.out L8.out E8.out (by decide) (by decide))
  go_wp2_with (first | (go_at_call 56; refine HC.out.mono ?_; rintro e W9 ⟨rfl, hb⟩; replace Pb := Lib.hid (Pb.out.below hb); replace HB := Lib.hid (HB.out.trans (hb.mono HB.out.size)); have z0 : W9.cell? ⟨W2.heap.size, 0, none⟩ = some (.slice (some ⟨g2, 0, none⟩) n2 c2) := Pb.out.blk.cell 0; have z1 : W9.cell? ⟨W2.heap.size, 1, none⟩ = some (.int .i64 0) := Pb.out.blk.cell 1; have z2 : W9.cell? ⟨W2.heap.size, 2, none⟩ = some (.int .i64 0) := Pb.out.blk.cell 2; clear hb))
  clear HC z0 z1 z2
  clear R8 L8 E8
  have HC := Lib.hid (groups_e (en := 0) (tp := 0) Pb.out.pge rp3.2.2.2 0 rp4.2.1)
  go_wp2_with (first | (go_at_call 57; (with_reducible refine HC.out.mono ?_); rintro e W10 ⟨A10, m10, d10, is10, rfl, hr10, hl10, he10, hb⟩; replace Pb := Lib.hid (Pb.out.below hb); replace HB := Lib.hid (HB.out.trans (hb.mono HB.out.size)); have R10 := Lib.hid hr10; have L10 := Lib.hid hl10; have E10 := Lib.hid he10; clear hr10 hl10 he10; clear hb))
  clear HC
  have HC := Lib.hid (same_g1 (c := d10) R10.out L10.out E10.out)
  go_wp2_with (first | (go_at_call 56; refine HC.out.mono ?_; rintro e W11 ⟨rfl, hb⟩; replace Pb := Lib.hid (Pb.out.below hb); replace HB := Lib.hid (HB.out.trans (hb.mono HB.out.size)); clear hb))
  clear HC
  clear R10 L10 E10
  have HC := Lib.hid (whole_0 (w := W11))
  go_wp2_with (first | (go_at_call 59; (with_reducible refine HC.out.mono ?_); rintro e W12 ⟨rfl, hb⟩; replace Pb := Lib.hid (Pb.out.below hb); replace HB := Lib.hid (HB.out.trans (hb.mono HB.out.size)); have z0 : W12.cell? ⟨W2.heap.size, 0, none⟩ = some (.slice (some ⟨g2, 0, none⟩) n2 c2) := Pb.out.blk.cell 0; have z1 : W12.cell? ⟨W2.heap.size, 1, none⟩ = some (.int .i64 0) := Pb.out.blk.cell 1; have z2 : W12.cell? ⟨W2.heap.size, 2, none⟩ = some (.int .i64 0) := Pb.out.blk.cell 2; clear hb))
  clear HC z0 z1 z2
  have HC := Lib.hid (from_e (en := 0) (tp := 0) Pb.out.pge rp3.2.2.2 0 none 0 0 [] Rd.nil_ (fun x hx => by cases hx) (by decide) rp3.2.1)
  go_wp2_with (first | (go_at_call 54; (with_reducible refine HC.out.mono ?_); rintro e W13 ⟨A13, m13, d13, rfl, ho13, hb⟩; replace Pb := Lib.hid (Pb.out.below hb); replace HB := Lib.hid (HB.out.trans (hb.mono HB.out.size)); obtain rfl : m13 = 0 := (by have h := ho13.len; have h2 : ([] : List Int).length = m13 := h; exact h2.symm); clear ho13; have z0 : W13.cell? ⟨W2.heap.size, 0, none⟩ = some (.slice (some ⟨g2, 0, none⟩) n2 c2) := Pb.out.blk.cell 0; have z1 : W13.cell? ⟨W2.heap.size, 1, none⟩ = some (.int .i64 0) := Pb.out.blk.cell 1; have z2 : W13.cell? ⟨W2.heap.size, 2, none⟩ = some (.int .i64 0) := Pb.out.blk.cell 2; clear hb))
  clear HC z0 z1 z2
  have HC := Lib.hid (groups_e (en := 0) (tp := 0) Pb.out.pge rp3.2.2.2 2 rp4.2.2)
  go_wp2_with (first | (go_at_call 57; (with_reducible refine HC.out.mono ?_); rintro e W14 ⟨A14, m14, d14, is14, rfl, hr14, hl14, he14, hb⟩; replace Pb := Lib.hid (Pb.out.below hb); replace HB := Lib.hid (HB.out.trans (hb.mono HB.out.size)); obtain rfl : m14 = 0 := (by have h := hr14.len; have h2 := congrArg List.length he14; simp only [List.length_map, List.length_nil] at h h2; omega); clear hr14 hl14 he14; clear hb))
  clear HC
  go_ret
  exact ⟨rfl, HB.out⟩
end Go.Proofs.Ytkhnnjeinpojkaa
