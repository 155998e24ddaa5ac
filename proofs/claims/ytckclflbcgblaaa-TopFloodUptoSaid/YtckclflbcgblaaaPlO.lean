/- Planes: neighbours, walked. -/
import Derived.Test.YtckclflbcgblaaaPlN
import Derived.Shelf.Abstract
import Derived.Deep.CutRange
namespace Go.Proofs.Ytckclflbcgblaaa
open Go.RowKit Go.Maps Go.ChangeMaps Go.MapKept
theorem node_one (d : ND) : d.cells.all (·.oneCell') = true := by simp [ND.cells, IS.v, Value.oneCell']
theorem node_put (w : World) (d : ND) : (Instr.storeAt 49 (.pointer (some ⟨w.heap.size, 0, none⟩)) (.agg d.cells)).run Try.prog (w.alloc (.cells nd0.cells 49)) = .ok () ((w.alloc (.cells nd0.cells 49)).setCells w.heap.size 0 d.cells.toList) :=
  row_store (Blk.new w 49 nd0.cells) d.cells rfl nodeT (node_one d)
theorem below_setCells {B g : Nat} {a w : World} (h : Below B a w) (hB : B ≤ a.heap.size) (hg : B ≤ g) (vs : List Value) (o : Nat) : Below B a (w.setCells g o vs) :=
  h.trans ((Tch.setCells (S := fun k => k = g) (g := g) rfl vs o w (Tch.refl _ w)).below (Nat.le_trans hB (by have := h.size; omega)) (fun k q => by omega))
theorem node_bel (w : World) (d : ND) : Below w.heap.size w ((w.alloc (.cells nd0.cells 49)).setCells w.heap.size 0 d.cells.toList) := below_setCells (bel_box _ _) (Nat.le_refl _) (Nat.le_refl _) _ _
theorem node_at (w : World) (d : ND) : Blk ((w.alloc (.cells nd0.cells 49)).setCells w.heap.size 0 d.cells.toList) w.heap.size 49 d.cells := by
  have := Blk.put (Blk.new w 49 nd0.cells) d.cells.toList rfl
  simpa using this
theorem nd0_lit : nd0.cells = #[.int .u64 0, .slice none 0 0, .int .u64 0, .int .i64 0, .slice none 0 0, .int .i64 0, .int .i64 0] := rfl
/-- DeleteFunc, with Near's closure. -/
theorem near_del (Y : World) (B : Nat) (A' : Option Addr) (m c' : Nat) (L : List Int) (ho : OwnI Y B A' m c' L) (hwf : ∀ x ∈ L, (Lit.int .i64 x).wf = true) (A : Option Addr) (n c : Nat) (ns : List ND) (en tp : Int) (t3 : Nat)
    (h3 : Blk Y t3 27 (pgL A n c en tp)) (hg : PgAt Y B A n c ns) (h3B : t3 < B) (hB : B ≤ Y.heap.size) (hm : m ≤ 2097152) :
    Calls Try.prog 26 #[.slice A' m c', .func (.func 33) #[] #[.pointer (some ⟨Y.heap.size + 1, 0, none⟩), .pointer (some ⟨t3, 0, none⟩)]] ((Y.alloc (.map #[] 0)).alloc (.cells #[.map (some Y.heap.size)] 63)) fun e w' => ∃ m', e = .returned (.slice A' m' c') ∧ OwnI w' B A' m' c' (keptI (nearQ ns L) L L.length) ∧ Below B Y w' := by
  have b1 := bel_box Y (.map #[] 0)
  have s1 : (Y.alloc (.map #[] 0)).heap.size = Y.heap.size + 1 := by simp only [World.alloc, Array.size_push]
  have b2 : Below Y.heap.size Y ((Y.alloc (.map #[] 0)).alloc (.cells #[.map (some Y.heap.size)] 63)) := b1.alloc (by rw [s1]; omega) _
  have M2 : MpAt ((Y.alloc (.map #[] 0)).alloc (.cells #[.map (some Y.heap.size)] 63)) 3 Y.heap.size 0 (.map []) := MpAt.alloc (World.ownsMap_made Y Try.prog 3 (plainElem (H := Unit) Try.prog 3)) _
  have K9 : Blk ((Y.alloc (.map #[] 0)).alloc (.cells #[.map (some Y.heap.size)] 63)) (Y.heap.size + 1) 63 #[.map (some Y.heap.size)] := by rw [← s1]; exact Blk.new _ _ _
  have K3 := h3.below b2 h3.lt
  have G2 : PgAt ((Y.alloc (.map #[] 0)).alloc (.cells #[.map (some Y.heap.size)] 63)) B A n c ns := hg.below (b2.mono hB)
  have O2 := ho.below b2
  obtain ⟨Z, hZ⟩ : ∃ Z, (Y.alloc (.map #[] 0)).alloc (.cells #[.map (some Y.heap.size)] 63) = Z := ⟨_, rfl⟩
  rw [hZ] at b2 M2 K9 K3 G2 O2 ⊢
  have hl := ho.len
  have hgA : ∀ g, A' = some ⟨g, 0, none⟩ → B ≤ g ∧ g < Y.heap.size := by
    intro g e
    rcases ho.row with ⟨e', _⟩ | ⟨g', e', hB', _, _, cs, hr, _⟩
    · rw [e'] at e; cases e
    · rw [e'] at e
      injection e with e
      injection e with e
      subst e
      exact ⟨hB', hr.ib.lt⟩
  have hT : ∀ W, Tch (fun k => k = Y.heap.size ∨ A' = some ⟨k, 0, none⟩) Z W → Blk W (Y.heap.size + 1) 63 #[.map (some Y.heap.size)] ∧ Blk W t3 27 (pgL A n c en tp) ∧ PgAt W B A n c ns := by
    intro W ht
    refine ⟨K9.tch ht ?_, K3.tch ht ?_, G2.below (ht.below (by have := b2.size; omega) ?_)⟩
    · rintro (q | q)
      · omega
      · have := hgA _ q; omega
    · rintro (q | q)
      · omega
      · have := hgA _ q; omega
    · rintro k (q | q)
      · omega
      · exact (hgA _ q).1
  refine (del_func A' m c' B L 33 _ (nearQ ns L) (fun i W => (∃ D, MpAt W 3 Y.heap.size i D ∧ CmD .i64 D (L.take i)) ∧ Tch (fun k => k = Y.heap.size ∨ A' = some ⟨k, 0, none⟩) Z W) Z hm
    (enters_of Try.func33 (by kernel_rfl) rfl) O2 (fun i W hi hk => ?_) (fun g e i W j u hk => ?_) ⟨⟨_, M2, CmD.nil_ _⟩, Tch.refl _ _⟩).mono ?_
  · obtain ⟨⟨D, hM, hD⟩, ht⟩ := hk
    obtain ⟨k9, k3, g3⟩ := hT W ht
    have hil : i < L.length := by omega
    have hws := ht.size
    have hzs := b2.size
    refine (near_cl (ig L i) Y.heap.size (Y.heap.size + 1) t3 i D (L.take i) W A n c ns en tp hM hD (hwf _ (by simp only [ig, List.getD_eq_getElem?_getD, List.getElem?_eq_getElem hil, Option.getD_some]; exact List.getElem_mem hil)) k9 k3 (g3.more (by omega)) (by omega) (by rw [List.length_take]; omega) (g3.more hB) (by omega) (by omega)).mono ?_
    rintro e w' ⟨rfl, ⟨D', hM', hD'⟩, ht'⟩
    refine ⟨rfl, ⟨⟨D', hM', by rw [take_step hil]; exact hD'⟩, ht.trans ht' (fun k q => .inl (.inl q))⟩, fun g e => ?_⟩
    exact ht'.block g (by have := (hgA g e).2; omega) (by have := (hgA g e).2; intro q; omega)
  · obtain ⟨⟨D, hM, hD⟩, ht⟩ := hk
    refine ⟨⟨D, hM.at_ (Below.heap_setCell W ⟨g, j, none⟩ u _ (by have := (hgA g e).2; show Y.heap.size ≠ g; omega)), hD⟩, ht.setCell (.inr e) j u⟩
  · rintro e w' ⟨m', rfl, hO, _, ht⟩
    refine ⟨m', rfl, by rw [hl]; exact hO, (b2.mono hB).trans (ht.below (by have := b2.size; omega) ?_)⟩
    rintro k (q | q)
    · omega
    · exact (hgA _ q).1
/-- What a node's list reads as. -/
theorem nd_list {w : World} {B : Nat} {d : ND} (h : d.At w B) {i : Nat} (hi : i < d.ln) : ∃ b o, d.LA = some ⟨b, o, none⟩ ∧ b < B ∧ w.cell? ⟨b, o + i, none⟩ = some (lsAt d i).v ∧ (lsAt d i).At w B .i64 := by
  obtain ⟨b, o, l, e, hb, hl, hc, ha⟩ := h.list hi
  have : lsAt d i = l := by unfold lsAt; rw [List.getD_eq_getElem?_getD, hl]; rfl
  rw [this]
  exact ⟨b, o, e, hb, hc, ha⟩
set_option maxRecDepth 100000 in
set_option maxHeartbeats 4000000 in
theorem pl_near (A : Option Addr) (n c : Nat) (ns : List ND) (en tp s level : Int) (w : World) (hg : PgAt w w.heap.size A n c ns) :
    Calls Try.prog 15 #[.agg (pgL A n c en tp), .int .i64 s, .int .i64 level] w (RetI (nearI ns s level) w) := by
  obtain ⟨w1, hw1⟩ : ∃ x, w.alloc (.cells (pgL A n c en tp) 27) = x := ⟨_, rfl⟩
  obtain ⟨C1, b1⟩ := box_plane hw1
  have hlen := hg.len
  have hn := hg.2.1
  have c0 : w1.cell? ⟨w.heap.size, 0, none⟩ = some (.slice A n c) := C1.cell 0
  have HB := Lib.hid b1
  by_cases hs0 : s < 0
  · have HR : Hid (nearI ns s level = []) := by show _ = _; unfold nearI; rw [if_neg (by omega)]
    clear hg C1 hlen b1
    unfold pgL at hw1 ⊢
    go_enter Try.func15, Try.ntmps15
    go_upto_region 1 with fail
    (try rw [hw1])
    clear hw1
    go_wp2_with fail
    go_ret
    exact ⟨_, _, _, rfl, by rw [HR.out]; exact OwnI.nil_ _ _, HB.out⟩
  by_cases hs1 : (n : Int) ≤ s
  · have HR : Hid (nearI ns s level = []) := by show _ = _; unfold nearI; rw [if_neg (by omega)]
    have t0 : decide (s < 0) = false := by simp; omega
    have t1 : decide (s ≥ (n : Int)) = true := by simp; omega
    clear hg C1 hlen b1
    unfold pgL at hw1 ⊢
    go_enter Try.func15, Try.ntmps15
    go_upto_region 1 with fail
    (try rw [hw1])
    clear hw1
    go_wp2_with fail
    go_ret
    exact ⟨_, _, _, rfl, by rw [HR.out]; exact OwnI.nil_ _ _, HB.out⟩
  obtain ⟨k, rfl⟩ : ∃ k : Nat, s = k := ⟨s.toNat, by omega⟩
  have hk : k < n := by omega
  have hg1 := hg.on b1 b1.size
  obtain ⟨b, o, d, rfl, hb, hd, hr, hda⟩ := hg1.node hk
  have HN : Hid (nearI ns k level = keptI (nearQ ns (nearSrc ns k level)) (nearSrc ns k level) (nearSrc ns k level).length) := by
    show _ = _
    unfold nearI
    rw [if_pos (by omega), Int.toNat_natCast]
  have hdn := nAt_of hd
  have hsrc : nearSrc ns k level = (if 0 < k ∧ 0 ≤ level ∧ level < d.ln then (lsAt d level.toNat).xs else []) ++ if level = 0 then [d.next, d.prev] else [] := by
    unfold nearSrc
    rw [hdn, hda.len]
  have LN := node_load hr
  have SN := node_put w1 d
  have K1 := node_at w1 d
  have bX := node_bel w1 d
  obtain ⟨X1, hX1⟩ : ∃ y, (w1.alloc (.cells nd0.cells 49)).setCells w1.heap.size 0 d.cells.toList = y := ⟨_, rfl⟩
  rw [hX1] at SN K1 bX
  rw [nd0_lit] at SN
  have hda1 := (hda.below bX).more bX.size
  have HDA := Lib.hid hda1
  have c4 : X1.cell? ⟨w1.heap.size, 4, none⟩ = some (.slice d.LA d.ln d.lc) := K1.cell 4
  have c5 : X1.cell? ⟨w1.heap.size, 5, none⟩ = some (.int .i64 d.next) := K1.cell 5
  have c6 : X1.cell? ⟨w1.heap.size, 6, none⟩ = some (.int .i64 d.prev) := K1.cell 6
  have HK := Lib.hid K1
  have HG1 := Lib.hid (hg1.on bX bX.size)
  have K3 := Lib.hid (C1.below bX C1.lt)
  have HB1 := Lib.hid (b1.trans (bX.mono b1.size))
  have hln := hda.2.2.1
  have HW := Lib.hid hda.2.2.2.2.2
  have HS := Lib.hid hsrc
  have hs0' : decide ((k : Int) < 0) = false := by simp
  have hkn : (k : Int) < (n : Int) := by omega
  obtain ⟨b1v, hb1v⟩ : ∃ b1v : Bool, b1v = decide (0 < k ∧ 0 ≤ level ∧ level < d.ln) := ⟨_, rfl⟩
  have HBV := Lib.hid hb1v
  clear hg C1 b1 hg1 hd hr hda hdn hsrc hX1 K1 bX hda1 hb1v hlen hs0 hs1
  unfold pgL at hw1 ⊢
  go_enter Try.func15, Try.ntmps15
  go_upto_region 1 with fail
  (try rw [hw1])
  clear hw1
  go_upto_region 4 with (first | refine wpList_loadE LN _ rfl rfl rfl ?_ | refine wpList_storeE SN _ _ rfl rfl rfl rfl ?_)
  clear LN SN
  go_upto_region 5 with fail
  go_cut [36] from 24 to 36 (fun s36 wx => s36 = .bool b1v ∧ wx = X1)
  case first =>
    by_cases h1 : 0 < k
    · by_cases h2 : 0 ≤ level
      · by_cases h3 : level < d.ln
        · have e : Hid (b1v = true) := by show _ = _; rw [HBV.out]; exact decide_eq_true ⟨h1, h2, h3⟩
          go_wp2_with fail
          go_meet
          exact ⟨by rw [e.out], rfl⟩
        · have e : Hid (b1v = false) := by show _ = _; rw [HBV.out]; exact decide_eq_false (by omega)
          go_wp2_with fail
          go_meet
          exact ⟨by rw [e.out], rfl⟩
      · have e : Hid (b1v = false) := by show _ = _; rw [HBV.out]; exact decide_eq_false (by omega)
        go_wp2_with fail
        go_meet
        exact ⟨by rw [e.out], rfl⟩
    · obtain rfl : k = 0 := by omega
      have e : Hid (b1v = false) := by show _ = _; rw [HBV.out]; exact decide_eq_false (by omega)
      go_wp2_with fail
      go_meet
      exact ⟨by rw [e.out], rfl⟩
  case rest =>
    obtain ⟨rfl, rfl⟩ := hcut
    cases hbv : b1v with
    | true =>
      have hin : 0 < k ∧ 0 ≤ level ∧ level < d.ln := of_decide_eq_true (HBV.out.symm.trans hbv)
      obtain ⟨j, rfl⟩ : ∃ j : Nat, level = j := ⟨level.toNat, by omega⟩
      have hj : j < d.ln := by omega
      obtain ⟨bl, ol, hLA, hbl, hcl, hla⟩ := nd_list HDA.out hj
      rw [hLA] at c4
      have HCL := Lib.hid (sl_clone (lsAt d j).A (lsAt d j).n (lsAt d j).c (lsAt d j).xs wc hla.2.2.1 hla.1 (Nat.le_trans hla.2.1 (by decide)))
      have hlb := hla.2.1
      have HLN := Lib.hid hla.len
      have HWL := Lib.hid hla.2.2.2
      unfold IS.v at hcl
      have hSR := HS.out
      rw [if_pos hin, Int.toNat_natCast] at hSR
      replace hSR := Lib.hid hSR
      have hin1 := hin.1
      clear hla hLA hbv hin HBV
      go_wp2_with fail
      refine HCL.out.mono ?_
      rintro e Y ⟨A', m, c', rfl, hOx, hYx⟩
      have hO0 := Lib.hid hOx
      have hYb0 := Lib.hid hYx
      have hml : m ≤ 1048576 := by have := hOx.len; have := HLN.out; omega
      have d5 : Y.cell? ⟨w1.heap.size, 5, none⟩ = some (.int .i64 d.next) := (HK.out.below hYx HK.out.lt).cell 5
      have d6 : Y.cell? ⟨w1.heap.size, 6, none⟩ = some (.int .i64 d.prev) := (HK.out.below hYx HK.out.lt).cell 6
      have hmm := fun w => run_makeMap (P := Try.prog) 63 w
      clear hOx hYx HCL hcl HLN
      by_cases hl0 : j = 0
      · subst hl0
        have hSR : Hid (nearSrc ns k ((0 : Nat) : Int) = (lsAt d 0).xs ++ [d.next, d.prev]) := hSR.out.trans (by rw [if_pos (by simp)])
        have HWF : Hid (∀ x ∈ (lsAt d 0).xs ++ [d.next, d.prev], (Lit.int .i64 x).wf = true) := by
          intro x hx
          rcases List.mem_append.1 hx with hx | hx
          · exact HWL.out x hx
          · simp at hx
            rcases hx with rfl | rfl
            · exact HW.out.2.2.1
            · exact HW.out.2.2.2.1
        go_upto_region 9 with (at_builtin; refine wpList_push2 rfl (.tmp 45) (.tmp 50) _ rfl wc.heap.size 3 .i64 8 (by decide) Try.underlying23 info_int Y A' m c' (lsAt d 0).xs d.next d.prev rfl hO0.out rfl (by omega) hYb0.out.size ?_; intro g' c'' Y2 ho2 hb2; have hO : Hid (OwnI Y2 wc.heap.size (some ⟨g', 0, none⟩) (m + 2) c'' ((lsAt d 0).xs ++ [d.next, d.prev])) := ho2; have hYb := Lib.hid (hYb0.out.trans hb2); clear ho2 hb2)
        have HDEL := Lib.hid (near_del Y2 wc.heap.size (some ⟨g', 0, none⟩) (m + 2) c'' ((lsAt d 0).xs ++ [d.next, d.prev]) hO.out HWF.out (some ⟨b, o, none⟩) n c ns en tp w.heap.size (K3.out.below hYb.out K3.out.lt) (HG1.out.below hYb.out) K3.out.lt hYb.out.size (by omega))
        unfold pgL at HDEL
        go_wp2_with (go_at_call 26; refine HDEL.out.mono ?_; rintro e w9 ⟨m9, rfl, hO9, hb9⟩; have HO9 := Lib.hid hO9; have HB9 := Lib.hid hb9; clear hO9 hb9)
        go_ret
        exact ⟨_, _, _, rfl, by rw [HN.out, hSR.out]; exact HO9.out.mono HB1.out.size, HB1.out.trans ((hYb.out.trans HB9.out).mono HB1.out.size)⟩
      · have hl0' : ((j : Int) == 0) = false := beq_false_of_ne (by omega)
        have hSR : Hid (nearSrc ns k (j : Int) = (lsAt d j).xs) := hSR.out.trans (by rw [if_neg (by omega), List.append_nil])
        have HWF := HWL
        have hO := hO0
        have hYb := hYb0
        clear hO0 hYb0
        have HDEL := Lib.hid (near_del Y wc.heap.size A' m c' (lsAt d j).xs hO.out HWF.out (some ⟨b, o, none⟩) n c ns en tp w.heap.size (K3.out.below hYb.out K3.out.lt) (HG1.out.below hYb.out) K3.out.lt hYb.out.size (by omega))
        unfold pgL at HDEL
        go_wp2_with (go_at_call 26; refine HDEL.out.mono ?_; rintro e w9 ⟨m9, rfl, hO9, hb9⟩; have HO9 := Lib.hid hO9; have HB9 := Lib.hid hb9; clear hO9 hb9)
        go_ret
        exact ⟨_, _, _, rfl, by rw [HN.out, hSR.out]; exact HO9.out.mono HB1.out.size, HB1.out.trans ((hYb.out.trans HB9.out).mono HB1.out.size)⟩
    | false =>
      have hin : ¬ (0 < k ∧ 0 ≤ level ∧ level < d.ln) := of_decide_eq_false (HBV.out.symm.trans hbv)
      have hSR := HS.out
      rw [if_neg hin, List.nil_append] at hSR
      replace hSR := Lib.hid hSR
      have hmm := fun w => run_makeMap (P := Try.prog) 63 w
      have hO0 := Lib.hid (OwnI.nil_ wc wc.heap.size)
      have hYb0 := Lib.hid (Below.refl wc.heap.size wc)
      clear hbv hin HBV
      by_cases hl0 : level = 0
      · subst hl0
        have hSR : Hid (nearSrc ns k 0 = ([] : List Int) ++ [d.next, d.prev]) := hSR.out.trans (by rw [if_pos rfl]; rfl)
        have HWF : Hid (∀ x ∈ ([] : List Int) ++ [d.next, d.prev], (Lit.int .i64 x).wf = true) := by
          intro x hx
          simp at hx
          rcases hx with rfl | rfl
          · exact HW.out.2.2.1
          · exact HW.out.2.2.2.1
        go_upto_region 9 with (at_builtin; refine wpList_push2 rfl (.tmp 45) (.tmp 50) _ rfl wc.heap.size 3 .i64 8 (by decide) Try.underlying23 info_int wc none 0 0 ([] : List Int) d.next d.prev rfl hO0.out rfl (by omega) hYb0.out.size ?_; intro g' c'' Y2 ho2 hb2; have hO : Hid (OwnI Y2 wc.heap.size (some ⟨g', 0, none⟩) (0 + 2) c'' (([] : List Int) ++ [d.next, d.prev])) := ho2; have hYb := Lib.hid (hYb0.out.trans hb2); clear ho2 hb2)
        have HDEL := Lib.hid (near_del Y2 wc.heap.size (some ⟨g', 0, none⟩) (0 + 2) c'' (([] : List Int) ++ [d.next, d.prev]) hO.out HWF.out (some ⟨b, o, none⟩) n c ns en tp w.heap.size (K3.out.below hYb.out K3.out.lt) (HG1.out.below hYb.out) K3.out.lt hYb.out.size (by omega))
        unfold pgL at HDEL
        go_wp2_with (go_at_call 26; refine HDEL.out.mono ?_; rintro e w9 ⟨m9, rfl, hO9, hb9⟩; have HO9 := Lib.hid hO9; have HB9 := Lib.hid hb9; clear hO9 hb9)
        go_ret
        exact ⟨_, _, _, rfl, by rw [HN.out, hSR.out]; exact HO9.out.mono HB1.out.size, HB1.out.trans ((hYb.out.trans HB9.out).mono HB1.out.size)⟩
      · have hl0' : (level == 0) = false := beq_false_of_ne hl0
        have hSR : Hid (nearSrc ns k level = ([] : List Int)) := hSR.out.trans (by rw [if_neg hl0])
        have HWF : Hid (∀ x ∈ ([] : List Int), (Lit.int .i64 x).wf = true) := by intro x hx; cases hx
        have hO := hO0
        have hYb := hYb0
        clear hO0 hYb0
        have HDEL := Lib.hid (near_del wc wc.heap.size none 0 0 ([] : List Int) hO.out HWF.out (some ⟨b, o, none⟩) n c ns en tp w.heap.size (K3.out.below hYb.out K3.out.lt) (HG1.out.below hYb.out) K3.out.lt hYb.out.size (by omega))
        unfold pgL at HDEL
        go_wp2_with (go_at_call 26; refine HDEL.out.mono ?_; rintro e w9 ⟨m9, rfl, hO9, hb9⟩; have HO9 := Lib.hid hO9; have HB9 := Lib.hid hb9; clear hO9 hb9)
        go_ret
        exact ⟨_, _, _, rfl, by rw [HN.out, hSR.out]; exact HO9.out.mono HB1.out.size, HB1.out.trans ((hYb.out.trans HB9.out).mono HB1.out.size)⟩
end Go.Proofs.Ytckclflbcgblaaa
