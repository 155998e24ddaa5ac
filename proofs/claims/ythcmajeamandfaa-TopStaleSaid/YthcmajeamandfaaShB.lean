/- TopSharded: law and walk. -/
import Derived.Test.YthcmajeamandfaaShA
import Derived.Test.YthcmajeamandfaaOpen
import Derived.Deep.CutBlock
namespace Go.Proofs.Ythcmajeamandfaa
open Go.RowKit
theorem run_neqNm (w : World) (x : Nm) : (Op.equalIn 10000 40 (nmV x) (nmV x)).run Try.prog w = .ok true w := by
  unfold nmV
  go_simp
theorem nm_load {w : World} {b o : Nat} {x : Nm} (h : w.rangeAt b o (nmL x)) : (Instr.loadAt 40 (.pointer (some ⟨b, o, none⟩))).run Try.prog w = .ok (nmV x) w := range_load (xs := nmC x) h Try.underlying40 rfl nmT
theorem NmAt.at_ {w : World} {B : Nat} {A : Option Addr} {n : Nat} {l : List Nm} (h : NmAt w B A n l) {i : Nat} (hi : i < n) : ∃ b o x, A = some ⟨b, o, none⟩ ∧ b < B ∧ l[i]? = some x ∧ w.rangeAt b (o + i * 3) (nmL x) := by
  obtain ⟨b, o, c, e, hb, hc, _, hr⟩ := Rs.at_ h hi
  rw [List.getElem?_map] at hc
  obtain ⟨d, hd, rfl⟩ := Option.map_eq_some_iff.1 hc
  exact ⟨b, o, d, e, hb, hd, hr⟩
theorem putL_len (E : List Nm) (x : Nm) : (putL E x).length ≤ E.length + 1 := by unfold putL; split <;> simp
theorem dropL_len (E : List Nm) (id : Int) : (dropL E id).length ≤ E.length := List.length_filter_le _ _
theorem putV_bd (E : List Nm) (id : Int) {v j : Int} (h : 0 ≤ v ∧ v ≤ j) : 0 ≤ putV E id v ∧ putV E id v ≤ j + 1 := by unfold putV; split <;> omega
theorem dropV_bd (E : List Nm) (id : Int) {v j : Int} (h : 0 ≤ v ∧ v ≤ j) : 0 ≤ dropV E id v ∧ dropV E id v ≤ j + 1 := by unfold dropV; split <;> omega
theorem load_u64S {w : World} {b o : Nat} {v : Int} (h : w.cell? ⟨b, o, none⟩ = some (.int .u64 v)) : (Instr.loadAt 28 (.pointer (some ⟨b, o, none⟩))).run Try.prog w = .ok (.int .u64 v) w := by
  simp [go_sem, h]
theorem yieldsIf_neqB {ops : Array Oper} {S : World → Prop} {o : Oper} {a : Act} {t t' : TypeId} {p q r : Bool} (ht : Try.prog.underlying t = some .bool) (hr : (p != q) = r) (hw : Region.wanted o (yielded ops a.tmps) = true) (x y : Operand) (ho : o.op = .binOp .neq t x y t') (hx : a.eval x = .bool p) (hy : a.eval y = .bool q) : YieldsIf Try.prog ops S o (.bool r) a := by
  refine .inl ⟨hw, fun w _ => ?_⟩
  unfold execOp
  simp only [ho, hx, hy]
  simp [go_sem, ht, ← hr]
  cases p <;> cases q <;> rfl
theorem yieldsIf_neqNm {ops : Array Oper} {S : World → Prop} {o : Oper} {a : Act} {v : Nm} (hw : Region.wanted o (yielded ops a.tmps) = true) (x y : Operand) (ho : o.op = .binOp .neq 40 x y 40) (hx : a.eval x = nmV v) (hy : a.eval y = nmV v) : YieldsIf Try.prog ops S o (.bool false) a := by
  refine .inl ⟨hw, fun w _ => ?_⟩
  have h := run_neqNm w v
  unfold nmV at h
  have h2 := run_eqGuard_agg w .neq 40 x y #[.int .u64 v.id, .int .i64 v.slot, .int .i64 v.gen] #[.int .u64 v.id, .int .i64 v.slot, .int .i64 v.gen] (P := Try.prog) (by kernel_rfl)
  unfold execOp
  simp only [ho, hx, hy]
  unfold nmV
  simp only [run_neq_struct, h, h2, Result.andThen_ok, Sem.run_bind]
  rfl
set_option maxRecDepth 100000 in
set_option maxHeartbeats 4000000 in
theorem sharded_walk (x y : Int) (A : Option Addr) (n c : Nat) (l : List Ch) (w : World) (hl : ChAt w w.heap.size A n l) (hwf : ∀ d ∈ l, (Lit.int .u64 d.id).wf = true) (hn : n ≤ maxLen) :
    Calls Try.prog 3 #[.int .i64 x, .int .i64 y, .slice A n c] w (fun e w' => e = .returned (.bool true) ∧ Below w.heap.size w w') := by
  have HB := Lib.hid (begins11_true w)
  by_cases hx : 1 ≤ x ∧ x ≤ 64
  · by_cases hy : 1 ≤ y ∧ y ≤ 64
    · obtain ⟨K, rfl⟩ : ∃ K : Nat, x = (K : Int) := ⟨x.toNat, by omega⟩
      obtain ⟨L, rfl⟩ : ∃ L : Nat, y = (L : Int) := ⟨y.toNat, by omega⟩
      go_enter Try.func3, Try.ntmps3
      go_upto_region 3 with (go_at_call 5; (refine HB.out.mono ?_); rintro e w1 ⟨rfl, hb1⟩; have HB1 := Lib.hid hb1; clear hb1)
      have HN := Lib.hid (id_new K (by omega) (by omega) w1)
      go_upto_region 4 with (go_at_call 6; (refine HN.out.mono ?_); rintro e w2 ⟨mp, sb, bs, rfl, hA2, hb2, hf2⟩; have HA2 := Lib.hid hA2; have HB2 := Lib.hid hb2; have HF2 := Lib.hid hf2; clear hA2 hb2 hf2)
      have HM := Lib.hid (id_new L (by omega) (by omega) w2)
      go_upto_region 5 with (go_at_call 6; (refine HM.out.mono ?_); rintro e w3 ⟨mq, sc, cs, rfl, hM3, hb3, hf3⟩; have HM3 := Lib.hid hM3; have HB3 := Lib.hid hb3; have HF3 := Lib.hid hf3; clear hM3 hb3 hf3)
      have hS := TwS.made (w0 := w) HA2.out (HB1.out.trans (HB2.out.mono HB1.out.size)) (fun x hx => Nat.le_trans HB1.out.size (HF2.out x hx)) HM3.out HB3.out HF3.out
      have HS := Lib.hid hS
      clear hS HB1 HN HM HA2 HB2 HF2 HM3 HB3 HF3
      by_cases h80 : n ≤ 80
      · have t1 : decide ((n : Int) > 80) = false := decide_eq_false (by omega)
        have t2 : decide (80 < n) = false := decide_eq_false (by omega)
        go_upto_region 8 with fail
        have HN80 := Lib.hid h80
        go_loopw [11, 12, 13, 14, 15, 16, 17, 18, 19, 72] (fun _ _ _ _ _ _ _ _ _ s72 wr => ∃ (j N : Nat) (E : List Nm) (ver : Int), j ≤ n ∧ s72 = .int .i64 j ∧ Hid (N ≤ j ∧ E.length ≤ j ∧ 0 ≤ ver ∧ ver ≤ j) ∧ Hid (TwS w wr mp sb K bs mq sc L cs N E ver)) (fun _ _ _ _ _ _ _ _ _ s72 _ => n - (intOf s72).toNat)
        case atStart => exact ⟨0, 0, [], 0, Nat.zero_le _, rfl, Lib.hid ⟨Nat.le_refl _, Nat.le_refl _, Int.le_refl _, Int.le_refl _⟩, HS⟩
        case round =>
          clear HS
          obtain ⟨j, N, E, ver, hj, rfl, HBD, HS⟩ := hrel
          by_cases hlt : j < n
          · obtain ⟨b, o, d, rfl, hb, hd, hr⟩ := ChAt.at_ (Rs.below hl HS.out.b) hlt
            have hwd := hwf d hd
            have hw1 := range_u64 hwd
            have LD := ch_load hr
            have SG := ch_put wr d
            have bG := put_belN wr (.cells #[.bool false, .int .u64 0] 30) (chC d).toList
            have kG := ch_blk wr d
            obtain ⟨w1, hw1'⟩ : ∃ q, (wr.alloc (.cells #[.bool false, .int .u64 0] 30)).setCells wr.heap.size 0 (chC d).toList = q := ⟨_, rfl⟩
            rw [hw1'] at SG bG kG
            have HS1 := Lib.hid (HS.out.below bG)
            have cD : w1.cell? ⟨wr.heap.size, 0, none⟩ = some (.bool d.drop) := kG.cell 0
            have cI : w1.cell? ⟨wr.heap.size, 1, none⟩ = some (.int .u64 d.id) := kG.cell 1
            have HKG := Lib.hid kG
            have HNF : Hid (∀ x, (idF mp bs x ∨ x = sb) ∨ (idF mq cs x ∨ x = sc) → x < wr.heap.size) := fun x hx => by
              rcases hx with q | q
              · exact HS.out.a.lt_all q
              · exact HS.out.c.lt_all q
            have HBG := Lib.hid bG
            have HWD := Lib.hid hwd
            have HWO := Lib.hid hw1
            have HLT := Lib.hid hlt
            clear hw1' bG kG hwd hw1 hr hb hd HS
            unfold chV at LD SG
            obtain ⟨dd, di⟩ := d
            (try dsimp only at cD cI HWD HWO HKG LD SG)
            (try simp only [chC] at HKG)
            go_upto_if 78 with (first
              | refine wpList_loadE LD _ rfl rfl rfl ?_
              | refine wpList_storeE SG _ _ rfl rfl rfl rfl ?_)
            clear LD SG
            (try go_frame)
            go_cut [13, 14, 15, 16] from 78 to 114 (fun _ _ _ _ wx => ∃ (N' : Nat) (E' : List Nm) (ver' : Int), Hid (N' ≤ j + 1 ∧ E'.length ≤ j + 1 ∧ 0 ≤ ver' ∧ ver' ≤ ((j + 1 : Nat) : Int)) ∧ Hid (TwS w wx mp sb K bs mq sc L cs N' E' ver'))
            case first =>
              cases dd
              · go_upto_region 15 with fail
                obtain ⟨is, his⟩ : ∃ q, (E.any fun y => y.id == di) = q := ⟨_, rfl⟩
                have hPA := id_put (HS1.out.a.below (below_drewN (Below.refl _ w1) 1)) ⟨di, ((j : Nat) : Int), 0⟩ HWO.out HWD.out (by have := HBD.out.1; have := HN80.out; omega) ⟨HBD.out.2.2.1, by have h1 := HBD.out.2.2.2; have := HN80.out; omega⟩
                simp only [his] at hPA
                have HPA := Lib.hid hPA
                clear hPA
                refine wp_region_held_drew (S := fun w' => Blk w' wr.heap.size 30 #[.bool false, .int .u64 di]) (by kernel_rfl) HKG.out (fun hH => ?_)
                refine wpAnyH_take (i := 0) (v := .pointer (some ⟨mp, 0, none⟩)) rfl (by kernel_rfl) (by kernel_rfl) (by kernel_rfl) (fun _ _ _ h => h) (.inl ⟨by rfl, fun _ _ => by kernel_rfl⟩) hH ?_
                (try simp only [List.getElem_toArray, List.getElem_cons_zero, Act.put, List.setIfInBounds_toArray, List.set_cons_zero, List.set_cons_succ])
                refine wpAnyH_take (i := 1) (v := .pointer (some ⟨wr.heap.size, 1, none⟩)) rfl (by kernel_rfl) (by kernel_rfl) (by kernel_rfl) (fun _ _ _ h => h) (.inl ⟨by rfl, fun _ _ => by kernel_rfl⟩) hH ?_
                (try simp only [List.getElem_toArray, List.getElem_cons_zero, List.getElem_cons_succ, Act.put, List.setIfInBounds_toArray, List.set_cons_zero, List.set_cons_succ])
                refine wpAnyH_take (i := 2) (v := .int .u64 di) rfl (by kernel_rfl) (by kernel_rfl) (by kernel_rfl) (fun _ _ _ h => h) (yieldsIf_loadP (by rfl) _ rfl rfl (fun _ q => load_u64S (q.cell 1))) hH ?_
                (try simp only [List.getElem_toArray, List.getElem_cons_zero, List.getElem_cons_succ, Act.put, List.setIfInBounds_toArray, List.set_cons_zero, List.set_cons_succ])
                refine wpAnyH_take (i := 3) (v := .int .i64 ((j : Nat) : Int)) rfl (by kernel_rfl) (by kernel_rfl) (by kernel_rfl) (fun _ _ _ h => h) (.inl ⟨by rfl, fun _ _ => by kernel_rfl⟩) hH ?_
                (try simp only [List.getElem_toArray, List.getElem_cons_zero, List.getElem_cons_succ, Act.put, List.setIfInBounds_toArray, List.set_cons_zero, List.set_cons_succ])
                refine wpAnyH_take (i := 4) (v := refV ⟨di, ((j : Nat) : Int), 0⟩) rfl (by kernel_rfl) (by kernel_rfl) (by kernel_rfl) (fun _ _ _ h => h) (.inl ⟨by rfl, fun _ _ => by kernel_rfl⟩) hH ?_
                (try simp only [List.getElem_toArray, List.getElem_cons_zero, List.getElem_cons_succ, Act.put, List.setIfInBounds_toArray, List.set_cons_zero, List.set_cons_succ])
                refine wpAnyH_take (i := 6) (v := .pointer (some ⟨mq, 0, none⟩)) rfl (by kernel_rfl) (by kernel_rfl) (by kernel_rfl) (fun _ _ _ h => h) (.inl ⟨by rfl, fun _ _ => by kernel_rfl⟩) hH ?_
                (try simp only [List.getElem_toArray, List.getElem_cons_zero, List.getElem_cons_succ, Act.put, List.setIfInBounds_toArray, List.set_cons_zero, List.set_cons_succ])
                refine wpAnyH_take (i := 7) (v := .pointer (some ⟨wr.heap.size, 1, none⟩)) rfl (by kernel_rfl) (by kernel_rfl) (by kernel_rfl) (fun _ _ _ h => h) (.inl ⟨by rfl, fun _ _ => by kernel_rfl⟩) hH ?_
                (try simp only [List.getElem_toArray, List.getElem_cons_zero, List.getElem_cons_succ, Act.put, List.setIfInBounds_toArray, List.set_cons_zero, List.set_cons_succ])
                refine wpAnyH_take (i := 8) (v := .int .u64 di) rfl (by kernel_rfl) (by kernel_rfl) (by kernel_rfl) (fun _ _ _ h => h) (yieldsIf_loadP (by rfl) _ rfl rfl (fun _ q => load_u64S (q.cell 1))) hH ?_
                (try simp only [List.getElem_toArray, List.getElem_cons_zero, List.getElem_cons_succ, Act.put, List.setIfInBounds_toArray, List.set_cons_zero, List.set_cons_succ])
                refine wpAnyH_take (i := 9) (v := .int .i64 ((j : Nat) : Int)) rfl (by kernel_rfl) (by kernel_rfl) (by kernel_rfl) (fun _ _ _ h => h) (.inl ⟨by rfl, fun _ _ => by kernel_rfl⟩) hH ?_
                (try simp only [List.getElem_toArray, List.getElem_cons_zero, List.getElem_cons_succ, Act.put, List.setIfInBounds_toArray, List.set_cons_zero, List.set_cons_succ])
                refine wpAnyH_take (i := 10) (v := refV ⟨di, ((j : Nat) : Int), 0⟩) rfl (by kernel_rfl) (by kernel_rfl) (by kernel_rfl) (fun _ _ _ h => h) (.inl ⟨by rfl, fun _ _ => by kernel_rfl⟩) hH ?_
                (try simp only [List.getElem_toArray, List.getElem_cons_zero, List.getElem_cons_succ, Act.put, List.setIfInBounds_toArray, List.set_cons_zero, List.set_cons_succ])
                refine wpAnyH_call 5 8 #[.pointer (some ⟨mp, 0, none⟩), .int .u64 di, refV ⟨di, ((j : Nat) : Int), 0⟩] _ (by kernel_rfl) (by rfl) (by kernel_rfl) (by kernel_rfl) HPA.out ?_
                rintro e w2 ⟨rfl, hT2, hA2⟩
                have hH2 := hH.tch hT2 (fun q => Nat.lt_irrefl _ (HNF.out _ (.inl (.inl q))))
                refine ⟨_, rfl, hH2, ?_⟩
                (try simp only [List.getElem_toArray, List.getElem_cons_zero, List.getElem_cons_succ, Act.put, List.setIfInBounds_toArray, List.set_cons_zero, List.set_cons_succ])
                have hPC := id_put (idS_other (HS1.out.c.below (below_drewN (Below.refl _ w1) 1)) hT2 HS1.out.dj) ⟨di, ((j : Nat) : Int), 0⟩ HWO.out HWD.out (by have := HBD.out.1; have := HN80.out; omega) ⟨HBD.out.2.2.1, by have h1 := HBD.out.2.2.2; have := HN80.out; omega⟩
                simp only [his] at hPC
                refine wpAnyH_call 11 8 #[.pointer (some ⟨mq, 0, none⟩), .int .u64 di, refV ⟨di, ((j : Nat) : Int), 0⟩] _ (by kernel_rfl) (by rfl) (by kernel_rfl) (by kernel_rfl) hPC ?_
                rintro e w3 ⟨rfl, hT3, hC3⟩
                have hH3 := hH2.tch hT3 (fun q => Nat.lt_irrefl _ (HNF.out _ (.inr (.inl q))))
                refine ⟨_, rfl, hH3, ?_⟩
                (try simp only [List.getElem_toArray, List.getElem_cons_zero, List.getElem_cons_succ, Act.put, List.setIfInBounds_toArray, List.set_cons_zero, List.set_cons_succ])
                refine wpAnyH_take (i := 12) (v := .bool false) rfl (by kernel_rfl) (by kernel_rfl) (by kernel_rfl) (fun _ _ _ h => h) (yieldsIf_neqB Try.underlying4 (p := !is) (q := !is) (by simp) (by rfl) _ _ rfl rfl rfl) hH3 ?_
                (try simp only [List.getElem_toArray, List.getElem_cons_zero, List.getElem_cons_succ, Act.put, List.setIfInBounds_toArray, List.set_cons_zero, List.set_cons_succ])
                refine wpAnyH_done (by kernel_rfl) ?_ _
                have hSF := (HS1.out.below (below_drewN (Below.refl _ w1) 1)).both hT2 hA2 hT3 hC3
                have HSF := Lib.hid hSF
                have HLE : Hid (N + 1 ≤ j + 1 ∧ (putL E ⟨di, ((j : Nat) : Int), 0⟩).length ≤ j + 1 ∧ 0 ≤ putV E di ver ∧ putV E di ver ≤ ((j + 1 : Nat) : Int)) := ⟨by have := HBD.out.1; omega, Nat.le_trans (putL_len _ _) (by have := HBD.out.2.1; omega), by have := putV_bd E di HBD.out.2.2; omega, by have := putV_bd E di HBD.out.2.2; omega⟩
                clear hSF hT2 hA2 hT3 hC3 hH hH2 hH3 hPC HPA
                go_wp2_with fail
                go_meet
                exact ⟨_, _, _, HLE, HSF⟩
              · obtain ⟨is, his⟩ : ∃ q, (E.any fun y => y.id == di) = q := ⟨_, rfl⟩
                obtain ⟨xg, hxg⟩ : ∃ q, getN E di = q := ⟨_, rfl⟩
                have hDA := id_drop HS1.out.a di HWO.out HWD.out ⟨HBD.out.2.2.1, by have h1 := HBD.out.2.2.2; have := HN80.out; omega⟩
                rw [hxg, his] at hDA
                have HDA := Lib.hid hDA
                clear hDA
                go_upto_region 12 with (first
                  | (go_at_call 7; (refine HDA.out.mono ?_); rintro e w2 ⟨rfl, hT2, hA2⟩; have HA2 := Lib.hid hA2; have HT2 := Lib.hid hT2; clear hA2 hT2; have SG := ref_put w2 xg; have bG := put_belN w2 (.cells #[.int .i64 0, .int .i64 0] 32) (refC xg).toList; have kG := ref_blk w2 xg; obtain ⟨w3, hw3⟩ : ∃ q, (w2.alloc (.cells #[.int .i64 0, .int .i64 0] 32)).setCells w2.heap.size 0 (refC xg).toList = q := ⟨_, rfl⟩; rw [hw3] at SG bG kG; have BG := Lib.hid bG; have KG := Lib.hid kG; unfold refV at SG ⊢; clear bG kG hw3)
                  | refine wpList_storeE SG _ _ rfl rfl rfl rfl ?_)
                have hT13 : Tch (idF mp bs) w1 w3 := HT2.out.trans (Tch.of_below (S := idF mp bs) BG.out) (fun _ h => .inl h)
                have hkd3 := (HKG.out.tch hT13 (fun q => Nat.lt_irrefl _ (HNF.out _ (.inl (.inl q)))))
                have cI3 : w3.cell? ⟨wr.heap.size, 1, none⟩ = some (.int .u64 di) := hkd3.cell 1
                have hC3 := idS_other HS1.out.c hT13 HS1.out.dj
                have hDC := id_drop hC3 di HWO.out HWD.out ⟨HBD.out.2.2.1, by have h1 := HBD.out.2.2.2; have := HN80.out; omega⟩
                rw [hxg, his] at hDC
                have HDC := Lib.hid hDC
                have HT13 := Lib.hid hT13
                clear cI cD SG hkd3 hC3 hDC hT13
                go_upto_region 13 with (first
                  | (go_at_call 7; (refine HDC.out.mono ?_); rintro e w4 ⟨rfl, hT4, hA4⟩; have HA4 := Lib.hid hA4; have HT4 := Lib.hid hT4; clear hA4 hT4; have SG := ref_put w4 xg; have bG := put_belN w4 (.cells #[.int .i64 0, .int .i64 0] 32) (refC xg).toList; have kG := ref_blk w4 xg; obtain ⟨w5, hw5⟩ : ∃ q, (w4.alloc (.cells #[.int .i64 0, .int .i64 0] 32)).setCells w4.heap.size 0 (refC xg).toList = q := ⟨_, rfl⟩; rw [hw5] at SG bG kG; have BG5 := Lib.hid bG; have KG5 := Lib.hid kG; unfold refV at SG ⊢; clear bG kG hw5)
                  | refine wpList_storeE SG _ _ rfl rfl rfl rfl ?_)
                have hSF := (HS1.out.both HT13.out (HA2.out.below BG.out) HT4.out HA4.out).below BG5.out
                have HSF := Lib.hid hSF
                have hlt2 : w1.heap.size ≤ w2.heap.size := HT2.out.size
                have L1 := ref_load ((KG.out.tch HT4.out (fun q => by have h1 := HNF.out _ (.inr (.inl q)); have h2 := HBG.out.size; omega)).below BG5.out (Nat.lt_of_lt_of_le KG.out.lt HT4.out.size))
                have L2 := ref_load KG5.out
                have HLE : Hid (N ≤ j + 1 ∧ (dropL E di).length ≤ j + 1 ∧ 0 ≤ dropV E di ver ∧ dropV E di ver ≤ ((j + 1 : Nat) : Int)) := ⟨by have := HBD.out.1; omega, Nat.le_trans (dropL_len _ _) (by have := HBD.out.2.1; omega), by have := dropV_bd E di HBD.out.2.2; omega, by have := dropV_bd E di HBD.out.2.2; omega⟩
                unfold refV at L1 L2
                clear hSF hlt2 SG HDA HDC HT13 cI3
                go_wp2_with (first
                  | refine wpList_loadE L1 _ rfl rfl rfl ?_
                  | refine wpList_loadE L2 _ rfl rfl rfl ?_)
                go_meet
                exact ⟨_, _, _, HLE, HSF⟩
            case rest =>
              obtain ⟨N', E', ver', HB2, HS2⟩ := hcut
              obtain ⟨W, hW⟩ : ∃ q, wc = q := ⟨_, rfl⟩
              rw [hW] at HS2 ⊢
              clear hW HS1 HKG HBD cI cD
              have HLA := Lib.hid (id_list HS2.out.a (Nat.le_trans HB2.out.2.1 (by have := HN80.out; omega)))
              go_upto_region 18 with (first
                | (go_at_call 9; (with_reducible refine HLA.out.mono ?_); rintro e V1 ⟨A1, n1, c1, rfl, hN1, _, _, hb1⟩; have HN1 := Lib.hid hN1; have HB1 := Lib.hid hb1; have hS3 := HS2.out.below hb1; have HS3 := Lib.hid hS3; have HLC := Lib.hid (id_list hS3.c (Nat.le_trans HB2.out.2.1 (by have := HN80.out; omega))); obtain rfl : n1 = E'.length := (NmAt.len hN1).symm.trans (sortN_len E'); clear hN1 hb1 hS3)
                | (go_at_call 9; (with_reducible refine HLC.out.mono ?_); rintro e V2 ⟨A2, n2, c2, rfl, hN2, _, _, hb2⟩; have HN2 := Lib.hid hN2; have HB3 := Lib.hid hb2; have hS4 := HS3.out.below hb2; have HS4 := Lib.hid hS4; obtain rfl : n2 = E'.length := (NmAt.len hN2).symm.trans (sortN_len E'); have HVA := Lib.hid (id_ver hS4.a); have HVC := Lib.hid (id_ver hS4.c); have HLN := Lib.hid (id_len hS4.a (Nat.le_trans HB2.out.2.1 (by have := HN80.out; omega))); clear hN2 hb2 hS4))
              clear HLA HLC
              go_upto_region 20 with (first
                | (go_at_call 10; (with_reducible refine HVA.out.mono ?_); rintro e V ⟨rfl, rfl⟩)
                | (go_at_call 10; (with_reducible refine HVC.out.mono ?_); rintro e V ⟨rfl, rfl⟩)
                | (go_at_call 11; (with_reducible refine HLN.out.mono ?_); rintro e V3 ⟨rfl, hb3⟩; have HB4 := Lib.hid hb3; clear hb3))
              have hS5 := HS4.out.below HB4.out
              have HP1 : Hid (NmAt V3 V3.heap.size A1 E'.length (sortN E')) := ((HN1.out.below HB3.out).more HB3.out.size |>.below (HB4.out.mono (Nat.le_refl _))).more HB4.out.size
              have HP2 : Hid (NmAt V3 V3.heap.size A2 E'.length (sortN E')) := (HN2.out.below HB4.out).more HB4.out.size
              have HS5 := Lib.hid hS5
              clear HN1 HN2 HS2 HS3 HS4 HB1 HB3 HB4 HVA HVC HLN hS5
              obtain ⟨m, hm⟩ : ∃ m, E'.length = m := ⟨_, rfl⟩
              rw [hm] at HP1 HP2 ⊢
              have HMM := Lib.hid hm
              have hm81 : m ≤ 81 := by have h1 := HB2.out.2.1; have h2 := HN80.out; omega
              clear hm
              go_upto_region 21 with fail
              go_loopw [19, 139] (fun _ s139 wx => ∃ k : Nat, k ≤ m ∧ s139 = .int .i64 k ∧ Hid (Below V3.heap.size V3 wx)) (fun _ s139 _ => m - (intOf s139).toNat)
              case atStart => exact ⟨0, Nat.zero_le _, rfl, Lib.hid (Below.refl _ _)⟩
              case round =>
                obtain ⟨k, hk, rfl, HBX⟩ := hrel
                by_cases hkm : k < m
                · obtain ⟨b1, o1, x1, rfl, hb1, hx1, hr1⟩ := (HP1.out.below HBX.out).at_ hkm
                  obtain ⟨b2, o2, x2, rfl, hb2, hx2, hr2⟩ := (HP2.out.below HBX.out).at_ hkm
                  obtain rfl : x1 = x2 := Option.some.inj (hx1.symm.trans hx2)
                  obtain ⟨wy, hwy⟩ : ∃ q, wr = q := ⟨_, rfl⟩
                  rw [hwy] at hr1 hr2 HBX ⊢
                  have HKT := Lib.hid hkm
                  have HR1 := Lib.hid hr1
                  have HR2 := Lib.hid hr2
                  have HB1 := Lib.hid hb1
                  have HB2' := Lib.hid hb2
                  clear hwy hr1 hr2 hx1 hx2 hb1 hb2
                  go_upto_region 23 with fail
                  refine wp_region_held_drew (S := fun w' => Below V3.heap.size wy w') (by kernel_rfl) (below_drewN (Below.refl _ wy) 1) (fun hH => ?_)
                  refine wpAnyH_take (i := 0) (v := .slice (some ⟨b1, o1, none⟩) m c1) rfl (by kernel_rfl) (by kernel_rfl) (by kernel_rfl) (fun _ _ _ h => h) (.inl ⟨by rfl, fun _ _ => by kernel_rfl⟩) hH ?_
                  (try simp only [List.getElem_toArray, List.getElem_cons_zero, Act.put, List.setIfInBounds_toArray, List.set_cons_zero, List.set_cons_succ])
                  refine wpAnyH_take (i := 1) (v := .int .i64 ((k : Nat) : Int)) rfl (by kernel_rfl) (by kernel_rfl) (by kernel_rfl) (fun _ _ _ h => h) (.inl ⟨by rfl, fun _ _ => by kernel_rfl⟩) hH ?_
                  (try simp only [List.getElem_toArray, List.getElem_cons_zero, List.getElem_cons_succ, Act.put, List.setIfInBounds_toArray, List.set_cons_zero, List.set_cons_succ])
                  refine wpAnyH_take (i := 2) (v := .pointer (some ⟨b1, o1 + k * 3, none⟩)) rfl (by kernel_rfl) (by kernel_rfl) (by kernel_rfl) (fun _ _ _ h => h) (yieldsIf_indexN Try.underlying36 sizeNm (by rfl) _ _ rfl rfl rfl HKT.out) hH ?_
                  (try simp only [List.getElem_toArray, List.getElem_cons_zero, List.getElem_cons_succ, Act.put, List.setIfInBounds_toArray, List.set_cons_zero, List.set_cons_succ])
                  refine wpAnyH_take (i := 3) (v := nmV x1) rfl (by kernel_rfl) (by kernel_rfl) (by kernel_rfl) (fun _ _ _ h => h) (yieldsIf_loadP (by rfl) _ rfl rfl (fun _ q => nm_load (rangeAt_keep HR1.out (fun j => q.cell (p := ⟨_, j, none⟩) HB1.out)))) hH ?_
                  (try simp only [List.getElem_toArray, List.getElem_cons_zero, List.getElem_cons_succ, Act.put, List.setIfInBounds_toArray, List.set_cons_zero, List.set_cons_succ])
                  refine wpAnyH_take (i := 4) (v := .slice (some ⟨b2, o2, none⟩) m c2) rfl (by kernel_rfl) (by kernel_rfl) (by kernel_rfl) (fun _ _ _ h => h) (.inl ⟨by rfl, fun _ _ => by kernel_rfl⟩) hH ?_
                  (try simp only [List.getElem_toArray, List.getElem_cons_zero, List.getElem_cons_succ, Act.put, List.setIfInBounds_toArray, List.set_cons_zero, List.set_cons_succ])
                  refine wpAnyH_take (i := 5) (v := .int .i64 ((k : Nat) : Int)) rfl (by kernel_rfl) (by kernel_rfl) (by kernel_rfl) (fun _ _ _ h => h) (.inl ⟨by rfl, fun _ _ => by kernel_rfl⟩) hH ?_
                  (try simp only [List.getElem_toArray, List.getElem_cons_zero, List.getElem_cons_succ, Act.put, List.setIfInBounds_toArray, List.set_cons_zero, List.set_cons_succ])
                  refine wpAnyH_take (i := 6) (v := .pointer (some ⟨b2, o2 + k * 3, none⟩)) rfl (by kernel_rfl) (by kernel_rfl) (by kernel_rfl) (fun _ _ _ h => h) (yieldsIf_indexN Try.underlying36 sizeNm (by rfl) _ _ rfl rfl rfl HKT.out) hH ?_
                  (try simp only [List.getElem_toArray, List.getElem_cons_zero, List.getElem_cons_succ, Act.put, List.setIfInBounds_toArray, List.set_cons_zero, List.set_cons_succ])
                  refine wpAnyH_take (i := 7) (v := nmV x1) rfl (by kernel_rfl) (by kernel_rfl) (by kernel_rfl) (fun _ _ _ h => h) (yieldsIf_loadP (by rfl) _ rfl rfl (fun _ q => nm_load (rangeAt_keep HR2.out (fun j => q.cell (p := ⟨_, j, none⟩) HB2'.out)))) hH ?_
                  (try simp only [List.getElem_toArray, List.getElem_cons_zero, List.getElem_cons_succ, Act.put, List.setIfInBounds_toArray, List.set_cons_zero, List.set_cons_succ])
                  refine wpAnyH_take (i := 8) (v := .bool false) rfl (by kernel_rfl) (by kernel_rfl) (by kernel_rfl) (fun _ _ _ h => h) (yieldsIf_neqNm (v := x1) (by rfl) _ _ rfl rfl rfl) hH ?_
                  (try simp only [List.getElem_toArray, List.getElem_cons_zero, List.getElem_cons_succ, Act.put, List.setIfInBounds_toArray, List.set_cons_zero, List.set_cons_succ])
                  refine wpAnyH_done (by kernel_rfl) ?_ _
                  have HBF : Hid (Below V3.heap.size V3 wy.drew) := below_drewN HBX.out 1
                  clear hH
                  go_wp2_with fail
                  go_roundw
                  case rel => exact ⟨k + 1, by have := HKT.out; omega, by go_num, HBF⟩
                  case measure => have := HKT.out; simp [intOf]; omega
                · obtain rfl : k = m := by omega
                  have hSF := HS5.out.below (HBX.out.mono (Nat.le_refl _))
                  have HSF := Lib.hid hSF
                  clear hSF HP1 HP2
                  go_wp2_with fail
                  go_roundw
                  case rel => exact ⟨j + 1, N', E', ver', by have := HLT.out; omega, by go_num, HB2, HSF⟩
                  case measure => have := HLT.out; simp [intOf]; omega
          · obtain rfl : j = n := by omega
            go_wp2_with fail
            go_ret
            exact ⟨rfl, HS.out.b⟩
      · have t1 : decide ((n : Int) > 80) = true := decide_eq_true (by omega)
        have t2 : decide (80 < n) = true := decide_eq_true (by omega)
        go_wp2_with fail
        go_ret
        exact ⟨rfl, HS.out.b⟩
    · have hy' : y < 1 ∨ 64 < y := by omega
      obtain ⟨K, rfl⟩ : ∃ K : Nat, x = (K : Int) := ⟨x.toNat, by omega⟩
      have HYY := Lib.hid hy'
      have u1 : (decide ((K : Int) < 1) || decide ((K : Int) > 64)) = false := by simp; omega
      have u2 : (decide (y < 1) || decide (y > 64)) = true := by simp; omega
      have u3 : decide ((K : Int) < 1) = false := decide_eq_false (by omega)
      have u4 : decide ((K : Int) > 64) = false := decide_eq_false (by omega)
      have u5 : decide (K < 1) = false := decide_eq_false (by omega)
      have u6 : decide (64 < K) = false := decide_eq_false (by omega)
      have hK1 : 1 ≤ K := by omega
      have hK2 : K ≤ 64 := by omega
      clear hx hy hy'
      go_enter Try.func3, Try.ntmps3
      go_upto_region 3 with (go_at_call 5; (refine HB.out.mono ?_); rintro e w1 ⟨rfl, hb1⟩; have HB1 := Lib.hid hb1; clear hb1)
      have HN := Lib.hid (id_new K hK1 hK2 w1)
      go_upto_region 4 with (go_at_call 6; (refine HN.out.mono ?_); rintro e w2 ⟨mp, sb, bs, rfl, _, hb2, _⟩; have HB2 := Lib.hid hb2; clear hb2)
      have HM := Lib.hid (id_newN y HYY.out w2)
      cases t1 : decide (y < 1)
      · have t2 : decide (y > 64) = true := decide_eq_true (by have := of_decide_eq_false t1; have := HYY.out; omega)
        go_wp2_with (go_at_call 6; (refine HM.out.mono ?_); rintro e w3 ⟨rfl, rfl⟩)
        go_ret
        exact ⟨rfl, HB1.out.trans (HB2.out.mono HB1.out.size)⟩
      · go_wp2_with (go_at_call 6; (refine HM.out.mono ?_); rintro e w3 ⟨rfl, rfl⟩)
        go_ret
        exact ⟨rfl, HB1.out.trans (HB2.out.mono HB1.out.size)⟩
  · have hx' : x < 1 ∨ 64 < x := by omega
    have HXX := Lib.hid hx'
    clear hx hx'
    have HY : ∀ W : World, Calls Try.prog 6 #[.int .i64 y] W (fun e w' => ∃ A z, e = .returned (.tuple #[.pointer A, .int .i64 z]) ∧ Below W.heap.size W w') := by
      intro W
      by_cases hy : 1 ≤ y ∧ y ≤ 64
      · obtain ⟨L, rfl⟩ : ∃ L : Nat, y = (L : Int) := ⟨y.toNat, by omega⟩
        exact (id_new L (by omega) (by omega) W).mono fun e w' ⟨mp, sb, bs, h1, _, h2, _⟩ => ⟨_, _, h1, h2⟩
      · exact (id_newN y (by omega) W).mono fun e w' ⟨h1, h2⟩ => ⟨_, _, h1, h2 ▸ Below.refl _ _⟩
    have HY := Lib.hid HY
    cases t1 : decide (x < 1)
    all_goals
      first
        | have t2 : decide (x > 64) = true := decide_eq_true (by have := of_decide_eq_false t1; have := HXX.out; omega)
        | skip
      go_enter Try.func3, Try.ntmps3
      go_upto_region 3 with (go_at_call 5; (refine HB.out.mono ?_); rintro e w1 ⟨rfl, hb1⟩; have HB1 := Lib.hid hb1; clear hb1)
      have HN := Lib.hid (id_newN x HXX.out w1)
      go_upto_region 4 with (go_at_call 6; (refine HN.out.mono ?_); rintro e w2 ⟨rfl, rfl⟩)
      have HM := Lib.hid (HY.out w1)
      go_wp2_with (go_at_call 6; (refine HM.out.mono ?_); rintro e w3 ⟨A3, z3, rfl, hb3⟩; have HB3 := Lib.hid hb3; clear hb3)
      go_ret
      exact ⟨rfl, HB1.out.trans (HB3.out.mono HB1.out.size)⟩
end Go.Proofs.Ythcmajeamandfaa
