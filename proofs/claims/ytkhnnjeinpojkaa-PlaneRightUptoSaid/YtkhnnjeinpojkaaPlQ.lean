/- Planes: neighbours, by the document. -/
import Derived.Test.YtkhnnjeinpojkaaPlO
namespace Go.Proofs.Ytkhnnjeinpojkaa
open Go.RowKit Go.Maps Go.ChangeMaps Go.MapKept
set_option maxRecDepth 100000 in
/-- 'append(l, s...)', l nil. -/
theorem wpList_nilI {ops : Array Oper} {rest : List Oper} {o : Oper} {a : Act} {Q : Exit → Act → World → Prop} (hgd : o.guard = none) (s x : Operand)
    (ho : o.op = .call { callee := .builtin .append, args := #[s, x], argTypes := #[35, 35] })
    (w0 : World) (A : Option Addr) (n c : Nat) (xs : List Int) (hs : a.eval s = .slice none 0 0) (hx : a.eval x = .slice A n c) (hr : Rd w0 w0.heap.size A n (xs.map (.int .i64))) (hA : A = none → n = 0 ∧ c = 0) (hn : n ≤ 1048576)
    (h : ∀ A' c' w', OwnI w' w0.heap.size A' n c' xs → Below w0.heap.size w0 w' → wpList Try.prog ops Q rest (a.put o.dst (.slice A' n c')) w') :
    wpList Try.prog ops Q (o :: rest) a w0 := by
  obtain ⟨i, hi, hz, hz1, hz2⟩ := info_parts info_int
  have hown := OwnI.nil_ w0 w0.heap.size
  have hl := hr.lenI
  cases A with
  | none =>
    obtain ⟨rfl, rfl⟩ := hA rfl
    have : xs = [] := List.eq_nil_of_length_eq_zero hl
    subst this
    refine wpList_append_own_none hgd s x 35 ho w0.heap.size 3 i 1 Try.underlying35 hi _ 0 [] hs hown hx ?_
    exact h _ _ _ hown (Below.refl _ _)
  | some ad =>
    have hc : ∀ j u, (xs.map (Value.int .i64))[j]? = some u → w0.cell? (ad.add j) = some u := by
      intro j u hu
      have hj : j < n := by
        have := (List.getElem?_eq_some_iff.1 hu).1
        rw [List.length_map, hl] at this
        exact this
      obtain ⟨b, o, e, hb, hcc⟩ := hr.2 (by omega)
      injection e with e
      subst e
      rw [Addr.add_lit]
      exact hcc j u hu
    refine wpList_append_own _ hgd s x 35 ho w0.heap.size 3 i (.int .i64 0) 1 8 Try.underlying35 hi hz hz1 hz2 rfl (by decide) _ 0 [] hs hown ad n c (xs.map (.int .i64)) hx (by rw [List.length_map, hl, Nat.mul_one]) hc
      (by intro u hu; obtain ⟨z, _, rfl⟩ := List.mem_map.1 hu; rfl) (by unfold maxLen; omega) (by omega) (Nat.le_refl _) ?_
    intro v' w' ho' hg _
    rw [List.nil_append, Nat.zero_add] at ho'
    have hb' := (Below.refl w0.heap.size w0).grown hg (Nat.le_refl _) (fun k hk => by cases hk)
    rcases ho'.2 with ⟨rfl, e0⟩ | ⟨g, cap, cur, rfl, _⟩
    · subst e0; exact h _ _ _ ho' hb'
    · exact h _ _ _ ho' hb'
set_option maxRecDepth 100000 in
set_option maxHeartbeats 4000000 in
theorem rf_near (A : Option Addr) (n c : Nat) (ns : List ND) (en tp s level : Int) (w : World) (hg : PgAt w w.heap.size A n c ns) :
    Calls Try.prog 32 #[.agg (pgL A n c en tp), .int .i64 s, .int .i64 level] w (RetI (nearI ns s level) w) := by
  obtain ⟨w1, hw1⟩ : ∃ x, w.alloc (.cells (pgL A n c en tp) 56) = x := ⟨_, rfl⟩
  obtain ⟨C1, b1⟩ := box_plane hw1
  have hlen := hg.len
  have hn := hg.2.1
  have c0 : w1.cell? ⟨w.heap.size, 0, none⟩ = some (.slice A n c) := C1.cell 0
  have HB := Lib.hid b1
  by_cases hs0 : s < 0
  · have HR : Hid (nearI ns s level = []) := by show _ = _; unfold nearI; rw [if_neg (by omega)]
    clear hg C1 hlen b1
    unfold pgL at hw1 ⊢
    go_enter Try.func32, Try.ntmps32
    go_upto_region 1 with fail
    (try rw [hw1])
    clear hw1
    go_wp2_with fail
    go_ret
    exact ⟨_, _, _, rfl, by rw [HR.out]; exact OwnI.nil_ _ _, HB.out⟩
  by_cases hs1 : (n : Int) ≤ s
  · have HR : Hid (nearI ns s level = []) := by show _ = _; unfold nearI; rw [if_neg (by omega)]
    have t0 : decide (s < 0) = false := by simp; omega
    have t1 : decide (s ≥ (n : Int)) = true := by simp; omega
    clear hg C1 hlen b1
    unfold pgL at hw1 ⊢
    go_enter Try.func32, Try.ntmps32
    go_upto_region 1 with fail
    (try rw [hw1])
    clear hw1
    go_wp2_with fail
    go_ret
    exact ⟨_, _, _, rfl, by rw [HR.out]; exact OwnI.nil_ _ _, HB.out⟩
  obtain ⟨k, rfl⟩ : ∃ k : Nat, s = k := ⟨s.toNat, by omega⟩
  have hk : k < n := by omega
  have hg1 := hg.on b1 b1.size
  obtain ⟨b, o, d, rfl, hb, hd, hr, hda⟩ := hg1.node hk
  have HN : Hid (nearI ns k level = keptI (nearQ ns (nearSrc ns k level)) (nearSrc ns k level) (nearSrc ns k level).length) := by
    show _ = _
    unfold nearI
    rw [if_pos (by omega), Int.toNat_natCast]
  have hdn := nAt_of hd
  have hsrc : nearSrc ns k level = (if 0 < k ∧ 0 ≤ level ∧ level < d.ln then (lsAt d level.toNat).xs else []) ++ if level = 0 then [d.next, d.prev] else [] := by
    unfold nearSrc
    rw [hdn, hda.len]
  have LN := node_load hr
  have SN := node_put w1 d
  have K1 := node_at w1 d
  have bX := node_bel w1 d
  obtain ⟨X1, hX1⟩ : ∃ y, (w1.alloc (.cells nd0.cells 91)).setCells w1.heap.size 0 d.cells.toList = y := ⟨_, rfl⟩
  rw [hX1] at SN K1 bX
  rw [nd0_lit] at SN
  have hda1 := (hda.below bX).more bX.size
  have HDA := Lib.hid hda1
  have c4 : X1.cell? ⟨w1.heap.size, 4, none⟩ = some (.slice d.LA d.ln d.lc) := K1.cell 4
  have c5 : X1.cell? ⟨w1.heap.size, 5, none⟩ = some (.int .i64 d.next) := K1.cell 5
  have c6 : X1.cell? ⟨w1.heap.size, 6, none⟩ = some (.int .i64 d.prev) := K1.cell 6
  have HK := Lib.hid K1
  have HG1 := Lib.hid (hg1.on bX bX.size)
  have K3 := Lib.hid (C1.below bX C1.lt)
  have HB1 := Lib.hid (b1.trans (bX.mono b1.size))
  have hln := hda.2.2.1
  have HW := Lib.hid hda.2.2.2.2.2
  have HS := Lib.hid hsrc
  have hs0' : decide ((k : Int) < 0) = false := by simp
  have hkn : (k : Int) < (n : Int) := by omega
  obtain ⟨b1v, hb1v⟩ : ∃ b1v : Bool, b1v = decide (0 < k ∧ 0 ≤ level ∧ level < d.ln) := ⟨_, rfl⟩
  have HBV := Lib.hid hb1v
  clear hg C1 b1 hg1 hd hr hda hdn hsrc hX1 K1 bX hda1 hb1v hlen hs0 hs1
  unfold pgL at hw1 ⊢
  go_enter Try.func32, Try.ntmps32
  go_upto_region 1 with fail
  (try rw [hw1])
  clear hw1
  go_upto_region 4 with (first | refine wpList_loadE LN _ rfl rfl rfl ?_ | refine wpList_storeE SN _ _ rfl rfl rfl rfl ?_)
  clear LN SN
  go_upto_region 5 with fail
  go_cut [38] from 26 to 38 (fun s36 wx => s36 = .bool b1v ∧ wx = X1)
  case first =>
    by_cases h1 : 0 < k
    · by_cases h2 : 0 ≤ level
      · by_cases h3 : level < d.ln
        · have e : Hid (b1v = true) := by show _ = _; rw [HBV.out]; exact decide_eq_true ⟨h1, h2, h3⟩
          go_wp2_with fail
          go_meet
          exact ⟨by rw [e.out], rfl⟩
        · have e : Hid (b1v = false) := by show _ = _; rw [HBV.out]; exact decide_eq_false (by omega)
          go_wp2_with fail
          go_meet
          exact ⟨by rw [e.out], rfl⟩
      · have e : Hid (b1v = false) := by show _ = _; rw [HBV.out]; exact decide_eq_false (by omega)
        go_wp2_with fail
        go_meet
        exact ⟨by rw [e.out], rfl⟩
    · obtain rfl : k = 0 := by omega
      have e : Hid (b1v = false) := by show _ = _; rw [HBV.out]; exact decide_eq_false (by omega)
      go_wp2_with fail
      go_meet
      exact ⟨by rw [e.out], rfl⟩
  case rest =>
    obtain ⟨rfl, rfl⟩ := hcut
    cases hbv : b1v with
    | true =>
      have hin : 0 < k ∧ 0 ≤ level ∧ level < d.ln := of_decide_eq_true (HBV.out.symm.trans hbv)
      by_cases hl0 : level = 0
      · subst hl0
        have hj : 0 < d.ln := by omega
        obtain ⟨bl, ol, hLA, hbl, hcl, hla⟩ := nd_list HDA.out hj
        rw [Nat.add_zero] at hcl
        rw [hLA] at c4
        have HLA := Lib.hid hla
        have hll := hla.2.1
        have HLN := Lib.hid hla.len
        unfold IS.v at hcl
        have hSR : nearSrc ns k 0 = (lsAt d 0).xs ++ [d.next, d.prev] := by
          have := HS.out
          rw [if_pos hin, if_pos rfl] at this
          exact this
        replace hSR := Lib.hid hSR
        have hin1 := hin.1
        have hj' : (0 : Int) < (d.ln : Int) := by omega
        clear hla hLA hbv hin HBV
        go_upto_region 7 with (at_builtin; (refine wpList_nilI rfl (.tmp 39) (.tmp 44) rfl wc (lsAt d 0).A (lsAt d 0).n (lsAt d 0).c (lsAt d 0).xs rfl rfl HLA.out.2.2.1 HLA.out.1 hll ?_; intro A' c' Y ho2 hb2; have hO0 := Lib.hid ho2; have hYb0 := Lib.hid hb2; have d5 : Y.cell? ⟨w1.heap.size, 5, none⟩ = some (.int .i64 d.next) := (HK.out.below hb2 HK.out.lt).cell 5; have d6 : Y.cell? ⟨w1.heap.size, 6, none⟩ = some (.int .i64 d.prev) := (HK.out.below hb2 HK.out.lt).cell 6; clear ho2 hb2))
        go_upto_region 9 with (at_builtin; (refine wpList_push2 rfl (.tmp 48) (.tmp 53) _ rfl wc.heap.size 3 .i64 8 (by decide) Try.underlying35 info_int Y A' (lsAt d 0).n c' (lsAt d 0).xs d.next d.prev rfl hO0.out rfl (by omega) hYb0.out.size ?_; intro g' c'' Y2 ho2 hb2; have hO : Hid (OwnI Y2 wc.heap.size (some ⟨g', 0, none⟩) ((lsAt d 0).n + 2) c'' ((lsAt d 0).xs ++ [d.next, d.prev])) := ho2; have hYb := Lib.hid (hYb0.out.trans hb2); clear ho2 hb2))
        obtain ⟨L, hL⟩ : ∃ L, nearSrc ns k 0 = L := ⟨_, rfl⟩
        have HLE := Lib.hid hL
        have hO : Hid (OwnI Y2 wc.heap.size (some ⟨g', 0, none⟩) ((lsAt d 0).n + 2) c'' L) := by show OwnI _ _ _ _ _ _; rw [← hL, hSR.out]; exact hO.out
        clear hL
        have HLL := Lib.hid hO.out.len
        have hmb : ((lsAt d 0).n + 2) ≤ 2097152 := by omega
        have HRD := Lib.hid hO.out.rd
        have HYB := Lib.hid hYb.out.size
        clear hO
        go_wp2_with fail
        go_loopw [9, 57] (fun s9 s57 wr => ∃ (j2 m2 : Nat) (A2 : Option Addr) (c2 : Nat), j2 ≤ ((lsAt d 0).n + 2) ∧ m2 ≤ j2 ∧ s57 = .int .i64 j2 ∧ s9 = .slice A2 m2 c2 ∧ Hid (OwnI wr Y2.heap.size A2 m2 c2 (keptI (nearQ ns L) L j2)) ∧ Hid (Below Y2.heap.size Y2 wr)) (fun _ s57 _ => ((lsAt d 0).n + 2) - (intOf s57).toNat)
        case atStart => exact ⟨0, 0, none, 0, Nat.zero_le _, Nat.le_refl _, rfl, rfl, Lib.hid (OwnI.nil_ _ _), Lib.hid (Below.refl _ _)⟩
        case round =>
          obtain ⟨j2, m2, A2, c2, hj2, hm2, rfl, rfl, ho, hb2⟩ := hrel
          by_cases hlt : j2 < ((lsAt d 0).n + 2)
          · have hlt2 : j2 < (L).length := by rw [HLL.out]; exact hlt
            have HKW := Lib.hid (kept_with ns L hlt2)
            obtain ⟨bs, os, eA, hbs, hcs0⟩ := HRD.out.atI hlt
            have hcs := (hb2.out.cell (p := ⟨bs, os + j2, none⟩) hbs).trans hcs0
            injection eA with eA
            injection eA with e1 e2
            subst e1 e2
            rw [Nat.zero_add] at hcs
            have LP := plane_load ((K3.out.below (hYb.out.trans (hb2.out.mono HYB.out)) K3.out.lt))
            have HT := rf_there (some ⟨b, o, none⟩) n c ns en tp (ig L j2) wr (HG1.out.on (hYb.out.trans (hb2.out.mono HYB.out)) (Nat.le_trans HYB.out hb2.out.size))
            obtain ⟨x, hx⟩ : ∃ x, ig L j2 = x := ⟨_, rfl⟩
            rw [hx] at HT HKW hcs
            have hsz := hb2.out.size
            unfold pgL at LP HT
            clear hx hcs0
            cases ht : thB ns x with
            | true =>
              have HKT : Hid (keptI (nearQ ns L) L (j2 + 1) = withI (keptI (nearQ ns L) L j2) x) := by show _ = _; rw [HKW.out, ht]; rfl
              rw [ht] at HT
              replace HT := Lib.hid HT
              clear ht HKW
              go_wp2_with (first
                | refine wpList_loadE LP _ rfl rfl rfl ?_
                | (go_at_call 25; refine HT.out.mono ?_; rintro e w2 ⟨rfl, bt⟩; have ho2 := Lib.hid (ho.out.below bt); have hb3 := Lib.hid (hb2.out.trans (bt.mono hsz)); have HWI := Lib.hid (rf_with A2 m2 c2 (keptI (nearQ ns L) L j2) x w2 ho2.out.rd ho2.out.none_ (by omega)); clear bt)
                | (go_at_call 77; refine HWI.out.mono ?_; (rintro e w3 ⟨A3, m3, c3, rfl, ho3, bt3⟩; have HO3 : Hid (OwnI w3 Y2.heap.size A3 m3 c3 (keptI (nearQ ns L) L (j2 + 1))) := (by show OwnI _ _ _ _ _ _; rw [HKT.out]; exact ho3.mono hb3.out.size); have HB3 := Lib.hid (hb3.out.trans (bt3.mono hb3.out.size)); have hm3 : m3 ≤ j2 + 1 := (by have h1 := HO3.out.len; have h2 := keptI_len (nearQ ns L) L (j2 + 1); omega); clear ho3 bt3)))
              go_roundw
              case rel => exact ⟨j2 + 1, m3, A3, c3, by omega, hm3, by go_num, rfl, HO3, HB3⟩
              case measure => simp [intOf]; omega
            | false =>
              have HKT : Hid (keptI (nearQ ns L) L (j2 + 1) = keptI (nearQ ns L) L j2) := by show _ = _; rw [HKW.out, ht]; rfl
              rw [ht] at HT
              replace HT := Lib.hid HT
              clear ht HKW
              go_wp2_with (first
                | refine wpList_loadE LP _ rfl rfl rfl ?_
                | (go_at_call 25; refine HT.out.mono ?_; rintro e w2 ⟨rfl, bt⟩; have ho2 : Hid (OwnI w2 Y2.heap.size A2 m2 c2 (keptI (nearQ ns L) L (j2 + 1))) := (by show OwnI _ _ _ _ _ _; rw [HKT.out]; exact ho.out.below bt); have hb3 := Lib.hid (hb2.out.trans (bt.mono hsz)); clear bt))
              go_roundw
              case rel => exact ⟨j2 + 1, m2, A2, c2, by omega, by omega, by go_num, rfl, ho2, hb3⟩
              case measure => simp [intOf]; omega
          · obtain rfl : j2 = ((lsAt d 0).n + 2) := by omega
            go_wp2_with fail
            go_ret
            exact ⟨_, _, _, rfl, by rw [HN.out, HLE.out, HLL.out]; exact ho.out.mono (by have h1 := HB1.out.size; have h2 := HYB.out; omega), HB1.out.trans ((hYb.out.trans (hb2.out.mono HYB.out)).mono HB1.out.size)⟩
      · obtain ⟨j, rfl⟩ : ∃ j : Nat, level = j := ⟨level.toNat, by omega⟩
        have hj : j < d.ln := by omega
        obtain ⟨bl, ol, hLA, hbl, hcl, hla⟩ := nd_list HDA.out hj
        rw [hLA] at c4
        have HLA := Lib.hid hla
        have hll := hla.2.1
        have HLN := Lib.hid hla.len
        unfold IS.v at hcl
        have hSR := HS.out
        rw [if_pos hin, Int.toNat_natCast] at hSR
        replace hSR := Lib.hid hSR
        have hin1 := hin.1
        clear hla hLA hbv hin HBV
        have hl0' : ((j : Int) == 0) = false := beq_false_of_ne (by omega)
        have hSR : Hid (nearSrc ns k (j : Int) = (lsAt d j).xs) := hSR.out.trans (by rw [if_neg (by omega), List.append_nil])
        go_upto_region 9 with (at_builtin; refine wpList_nilI rfl (.tmp 39) (.tmp 44) rfl wc (lsAt d j).A (lsAt d j).n (lsAt d j).c (lsAt d j).xs rfl rfl HLA.out.2.2.1 HLA.out.1 hll ?_; intro A' c' Y ho2 hb2; have hO := Lib.hid ho2; have hYb := Lib.hid hb2; clear ho2 hb2)
        obtain ⟨L, hL⟩ : ∃ L, nearSrc ns k (j : Int) = L := ⟨_, rfl⟩
        have HLE := Lib.hid hL
        have hO : Hid (OwnI Y wc.heap.size A' (lsAt d j).n c' L) := by show OwnI _ _ _ _ _ _; rw [← hL, hSR.out]; exact hO.out
        clear hL
        have HLL := Lib.hid hO.out.len
        have hmb : (lsAt d j).n ≤ 2097152 := by omega
        have HRD := Lib.hid hO.out.rd
        have HYB := Lib.hid hYb.out.size
        clear hO
        go_wp2_with fail
        go_loopw [9, 57] (fun s9 s57 wr => ∃ (j2 m2 : Nat) (A2 : Option Addr) (c2 : Nat), j2 ≤ (lsAt d j).n ∧ m2 ≤ j2 ∧ s57 = .int .i64 j2 ∧ s9 = .slice A2 m2 c2 ∧ Hid (OwnI wr Y.heap.size A2 m2 c2 (keptI (nearQ ns L) L j2)) ∧ Hid (Below Y.heap.size Y wr)) (fun _ s57 _ => (lsAt d j).n - (intOf s57).toNat)
        case atStart => exact ⟨0, 0, none, 0, Nat.zero_le _, Nat.le_refl _, rfl, rfl, Lib.hid (OwnI.nil_ _ _), Lib.hid (Below.refl _ _)⟩
        case round =>
          obtain ⟨j2, m2, A2, c2, hj2, hm2, rfl, rfl, ho, hb2⟩ := hrel
          by_cases hlt : j2 < (lsAt d j).n
          · have hlt2 : j2 < (L).length := by rw [HLL.out]; exact hlt
            have HKW := Lib.hid (kept_with ns L hlt2)
            obtain ⟨bs, os, eA, hbs, hcs0⟩ := HRD.out.atI hlt
            have hcs := (hb2.out.cell (p := ⟨bs, os + j2, none⟩) hbs).trans hcs0
            subst eA
            have LP := plane_load ((K3.out.below (hYb.out.trans (hb2.out.mono HYB.out)) K3.out.lt))
            have HT := rf_there (some ⟨b, o, none⟩) n c ns en tp (ig L j2) wr (HG1.out.on (hYb.out.trans (hb2.out.mono HYB.out)) (Nat.le_trans HYB.out hb2.out.size))
            obtain ⟨x, hx⟩ : ∃ x, ig L j2 = x := ⟨_, rfl⟩
            rw [hx] at HT HKW hcs
            have hsz := hb2.out.size
            unfold pgL at LP HT
            clear hx hcs0
            cases ht : thB ns x with
            | true =>
              have HKT : Hid (keptI (nearQ ns L) L (j2 + 1) = withI (keptI (nearQ ns L) L j2) x) := by show _ = _; rw [HKW.out, ht]; rfl
              rw [ht] at HT
              replace HT := Lib.hid HT
              clear ht HKW
              go_wp2_with (first
                | refine wpList_loadE LP _ rfl rfl rfl ?_
                | (go_at_call 25; refine HT.out.mono ?_; rintro e w2 ⟨rfl, bt⟩; have ho2 := Lib.hid (ho.out.below bt); have hb3 := Lib.hid (hb2.out.trans (bt.mono hsz)); have HWI := Lib.hid (rf_with A2 m2 c2 (keptI (nearQ ns L) L j2) x w2 ho2.out.rd ho2.out.none_ (by omega)); clear bt)
                | (go_at_call 77; refine HWI.out.mono ?_; (rintro e w3 ⟨A3, m3, c3, rfl, ho3, bt3⟩; have HO3 : Hid (OwnI w3 Y.heap.size A3 m3 c3 (keptI (nearQ ns L) L (j2 + 1))) := (by show OwnI _ _ _ _ _ _; rw [HKT.out]; exact ho3.mono hb3.out.size); have HB3 := Lib.hid (hb3.out.trans (bt3.mono hb3.out.size)); have hm3 : m3 ≤ j2 + 1 := (by have h1 := HO3.out.len; have h2 := keptI_len (nearQ ns L) L (j2 + 1); omega); clear ho3 bt3)))
              go_roundw
              case rel => exact ⟨j2 + 1, m3, A3, c3, by omega, hm3, by go_num, rfl, HO3, HB3⟩
              case measure => simp [intOf]; omega
            | false =>
              have HKT : Hid (keptI (nearQ ns L) L (j2 + 1) = keptI (nearQ ns L) L j2) := by show _ = _; rw [HKW.out, ht]; rfl
              rw [ht] at HT
              replace HT := Lib.hid HT
              clear ht HKW
              go_wp2_with (first
                | refine wpList_loadE LP _ rfl rfl rfl ?_
                | (go_at_call 25; refine HT.out.mono ?_; rintro e w2 ⟨rfl, bt⟩; have ho2 : Hid (OwnI w2 Y.heap.size A2 m2 c2 (keptI (nearQ ns L) L (j2 + 1))) := (by show OwnI _ _ _ _ _ _; rw [HKT.out]; exact ho.out.below bt); have hb3 := Lib.hid (hb2.out.trans (bt.mono hsz)); clear bt))
              go_roundw
              case rel => exact ⟨j2 + 1, m2, A2, c2, by omega, by omega, by go_num, rfl, ho2, hb3⟩
              case measure => simp [intOf]; omega
          · obtain rfl : j2 = (lsAt d j).n := by omega
            go_wp2_with fail
            go_ret
            exact ⟨_, _, _, rfl, by rw [HN.out, HLE.out, HLL.out]; exact ho.out.mono (by have h1 := HB1.out.size; have h2 := HYB.out; omega), HB1.out.trans ((hYb.out.trans (hb2.out.mono HYB.out)).mono HB1.out.size)⟩
    | false =>
      have hin : ¬ (0 < k ∧ 0 ≤ level ∧ level < d.ln) := of_decide_eq_false (HBV.out.symm.trans hbv)
      have hSR := HS.out
      rw [if_neg hin, List.nil_append] at hSR
      replace hSR := Lib.hid hSR
      have hO0 := Lib.hid (OwnI.nil_ wc wc.heap.size)
      have hYb0 := Lib.hid (Below.refl wc.heap.size wc)
      clear hbv hin HBV
      by_cases hl0 : level = 0
      · subst hl0
        have hSR : Hid (nearSrc ns k 0 = ([] : List Int) ++ [d.next, d.prev]) := hSR.out.trans (by rw [if_pos rfl]; rfl)
        go_upto_region 9 with (at_builtin; (refine wpList_push2 rfl (.tmp 48) (.tmp 53) _ rfl wc.heap.size 3 .i64 8 (by decide) Try.underlying35 info_int wc none 0 0 ([] : List Int) d.next d.prev rfl hO0.out rfl (by omega) hYb0.out.size ?_; intro g' c'' Y2 ho2 hb2; have hO : Hid (OwnI Y2 wc.heap.size (some ⟨g', 0, none⟩) (0 + 2) c'' (([] : List Int) ++ [d.next, d.prev])) := ho2; have hYb := Lib.hid (hYb0.out.trans hb2); clear ho2 hb2))
        obtain ⟨L, hL⟩ : ∃ L, nearSrc ns k 0 = L := ⟨_, rfl⟩
        have HLE := Lib.hid hL
        have hO : Hid (OwnI Y2 wc.heap.size (some ⟨g', 0, none⟩) 2 c'' L) := by show OwnI _ _ _ _ _ _; rw [← hL, hSR.out]; exact hO.out
        clear hL
        have HLL := Lib.hid hO.out.len
        have hmb : 2 ≤ 2097152 := by omega
        have HRD := Lib.hid hO.out.rd
        have HYB := Lib.hid hYb.out.size
        clear hO
        go_wp2_with fail
        go_loopw [9, 57] (fun s9 s57 wr => ∃ (j2 m2 : Nat) (A2 : Option Addr) (c2 : Nat), j2 ≤ 2 ∧ m2 ≤ j2 ∧ s57 = .int .i64 j2 ∧ s9 = .slice A2 m2 c2 ∧ Hid (OwnI wr Y2.heap.size A2 m2 c2 (keptI (nearQ ns L) L j2)) ∧ Hid (Below Y2.heap.size Y2 wr)) (fun _ s57 _ => 2 - (intOf s57).toNat)
        case atStart => exact ⟨0, 0, none, 0, Nat.zero_le _, Nat.le_refl _, rfl, rfl, Lib.hid (OwnI.nil_ _ _), Lib.hid (Below.refl _ _)⟩
        case round =>
          obtain ⟨j2, m2, A2, c2, hj2, hm2, rfl, rfl, ho, hb2⟩ := hrel
          by_cases hlt : j2 < 2
          · have hlt2 : j2 < (L).length := by rw [HLL.out]; exact hlt
            have HKW := Lib.hid (kept_with ns L hlt2)
            obtain ⟨bs, os, eA, hbs, hcs0⟩ := HRD.out.atI hlt
            have hcs := (hb2.out.cell (p := ⟨bs, os + j2, none⟩) hbs).trans hcs0
            injection eA with eA
            injection eA with e1 e2
            subst e1 e2
            rw [Nat.zero_add] at hcs
            have LP := plane_load ((K3.out.below (hYb.out.trans (hb2.out.mono HYB.out)) K3.out.lt))
            have HT := rf_there (some ⟨b, o, none⟩) n c ns en tp (ig L j2) wr (HG1.out.on (hYb.out.trans (hb2.out.mono HYB.out)) (Nat.le_trans HYB.out hb2.out.size))
            obtain ⟨x, hx⟩ : ∃ x, ig L j2 = x := ⟨_, rfl⟩
            rw [hx] at HT HKW hcs
            have hsz := hb2.out.size
            unfold pgL at LP HT
            clear hx hcs0
            cases ht : thB ns x with
            | true =>
              have HKT : Hid (keptI (nearQ ns L) L (j2 + 1) = withI (keptI (nearQ ns L) L j2) x) := by show _ = _; rw [HKW.out, ht]; rfl
              rw [ht] at HT
              replace HT := Lib.hid HT
              clear ht HKW
              go_wp2_with (first
                | refine wpList_loadE LP _ rfl rfl rfl ?_
                | (go_at_call 25; refine HT.out.mono ?_; rintro e w2 ⟨rfl, bt⟩; have ho2 := Lib.hid (ho.out.below bt); have hb3 := Lib.hid (hb2.out.trans (bt.mono hsz)); have HWI := Lib.hid (rf_with A2 m2 c2 (keptI (nearQ ns L) L j2) x w2 ho2.out.rd ho2.out.none_ (by omega)); clear bt)
                | (go_at_call 77; refine HWI.out.mono ?_; (rintro e w3 ⟨A3, m3, c3, rfl, ho3, bt3⟩; have HO3 : Hid (OwnI w3 Y2.heap.size A3 m3 c3 (keptI (nearQ ns L) L (j2 + 1))) := (by show OwnI _ _ _ _ _ _; rw [HKT.out]; exact ho3.mono hb3.out.size); have HB3 := Lib.hid (hb3.out.trans (bt3.mono hb3.out.size)); have hm3 : m3 ≤ j2 + 1 := (by have h1 := HO3.out.len; have h2 := keptI_len (nearQ ns L) L (j2 + 1); omega); clear ho3 bt3)))
              go_roundw
              case rel => exact ⟨j2 + 1, m3, A3, c3, by omega, hm3, by go_num, rfl, HO3, HB3⟩
              case measure => simp [intOf]; omega
            | false =>
              have HKT : Hid (keptI (nearQ ns L) L (j2 + 1) = keptI (nearQ ns L) L j2) := by show _ = _; rw [HKW.out, ht]; rfl
              rw [ht] at HT
              replace HT := Lib.hid HT
              clear ht HKW
              go_wp2_with (first
                | refine wpList_loadE LP _ rfl rfl rfl ?_
                | (go_at_call 25; refine HT.out.mono ?_; rintro e w2 ⟨rfl, bt⟩; have ho2 : Hid (OwnI w2 Y2.heap.size A2 m2 c2 (keptI (nearQ ns L) L (j2 + 1))) := (by show OwnI _ _ _ _ _ _; rw [HKT.out]; exact ho.out.below bt); have hb3 := Lib.hid (hb2.out.trans (bt.mono hsz)); clear bt))
              go_roundw
              case rel => exact ⟨j2 + 1, m2, A2, c2, by omega, by omega, by go_num, rfl, ho2, hb3⟩
              case measure => simp [intOf]; omega
          · obtain rfl : j2 = 2 := by omega
            go_wp2_with fail
            go_ret
            exact ⟨_, _, _, rfl, by rw [HN.out, HLE.out, HLL.out]; exact ho.out.mono (by have h1 := HB1.out.size; have h2 := HYB.out; omega), HB1.out.trans ((hYb.out.trans (hb2.out.mono HYB.out)).mono HB1.out.size)⟩
      · have hl0' : (level == 0) = false := beq_false_of_ne hl0
        have hSR : Hid (nearSrc ns k level = ([] : List Int)) := hSR.out.trans (by rw [if_neg hl0])
        have hO := hO0
        have hYb := hYb0
        clear hO0 hYb0
        obtain ⟨L, hL⟩ : ∃ L, nearSrc ns k level = L := ⟨_, rfl⟩
        have HLE := Lib.hid hL
        have hO : Hid (OwnI wc wc.heap.size none 0 0 L) := by show OwnI _ _ _ _ _ _; rw [← hL, hSR.out]; exact hO.out
        clear hL
        have HLL := Lib.hid hO.out.len
        have hmb : 0 ≤ 2097152 := by omega
        have HRD := Lib.hid hO.out.rd
        have HYB := Lib.hid hYb.out.size
        clear hO
        go_wp2_with fail
        go_loopw [9, 57] (fun s9 s57 wr => ∃ (j2 m2 : Nat) (A2 : Option Addr) (c2 : Nat), j2 ≤ 0 ∧ m2 ≤ j2 ∧ s57 = .int .i64 j2 ∧ s9 = .slice A2 m2 c2 ∧ Hid (OwnI wr wc.heap.size A2 m2 c2 (keptI (nearQ ns L) L j2)) ∧ Hid (Below wc.heap.size wc wr)) (fun _ s57 _ => 0 - (intOf s57).toNat)
        case atStart => exact ⟨0, 0, none, 0, Nat.zero_le _, Nat.le_refl _, rfl, rfl, Lib.hid (OwnI.nil_ _ _), Lib.hid (Below.refl _ _)⟩
        case round =>
          obtain ⟨j2, m2, A2, c2, hj2, hm2, rfl, rfl, ho, hb2⟩ := hrel
          by_cases hlt : j2 < 0
          · exact absurd hlt (by omega)
          · obtain rfl : j2 = 0 := by omega
            go_wp2_with fail
            go_ret
            exact ⟨_, _, _, rfl, by rw [HN.out, HLE.out, HLL.out]; exact ho.out.mono (by have h1 := HB1.out.size; have h2 := HYB.out; omega), HB1.out.trans ((hYb.out.trans (hb2.out.mono HYB.out)).mono HB1.out.size)⟩
end Go.Proofs.Ytkhnnjeinpojkaa
