/- TopStale: law and walk. -/
import Derived.Test.YthcmajeamandfaaStB
namespace Go.Proofs.Ythcmajeamandfaa
open Go.RowKit
def LoopS (w0 w : World) (ap sb mp sh n : Nat) (bs : List Nat) (A : Option Addr) (q d j : Nat) : Prop :=
  ∃ (fb c : Nat) (st gn : Nat → Int) (fr : List Int) (ct : Nat → Int) (N : Nat) (E : List Nm) (ver : Int) (stale : List Nm), StS w0 w ap sb fb n c st gn fr ct mp sh N bs E ver A q d stale ∧ StI n st gn fr ct E stale j ∧ N ≤ j ∧ 0 ≤ ver ∧ ver ≤ (j : Int)
theorem nm_put (W : World) (x : Nm) : (Instr.storeAt 40 (.pointer (some ⟨W.heap.size, 0, none⟩)) (nmV x)).run Try.prog (W.alloc (.cells #[.int .u64 0, .int .i64 0, .int .i64 0] 40)) = .ok () ((W.alloc (.cells #[.int .u64 0, .int .i64 0, .int .i64 0] 40)).setCells W.heap.size 0 (nmC x).toList) :=
  row_store (Blk.new W 40 #[.int .u64 0, .int .i64 0, .int .i64 0]) (nmC x) rfl nmT (by simp [nmC, Value.oneCell'])
theorem nm_blk (W : World) (x : Nm) : Blk ((W.alloc (.cells #[.int .u64 0, .int .i64 0, .int .i64 0] 40)).setCells W.heap.size 0 (nmC x).toList) W.heap.size 40 (nmC x) := (Blk.new W 40 #[.int .u64 0, .int .i64 0, .int .i64 0]).put _ rfl
theorem yieldsIf_neqI {ops : Array Oper} {S : World → Prop} {o : Oper} {a : Act} {t t' : TypeId} {p q : Int} {r : Bool} (hr : (p != q) = r) (hw : Region.wanted o (yielded ops a.tmps) = true) (x y : Operand) (ho : o.op = .binOp .neq t x y t') (hx : a.eval x = .int .i64 p) (hy : a.eval y = .int .i64 q) : YieldsIf Try.prog ops S o (.bool r) a := by
  refine .inl ⟨hw, fun w _ => ?_⟩
  unfold execOp
  simp only [ho, hx, hy]
  simp [go_sem, ← hr]
/-- The counts, step by step: 2 -> 3 -> 4 -> 0. -/
theorem ct_drop (ct : Nat → Int) : ∀ ct1 ct2 ct3 : Nat → Int, ct1 = upA (upA ct 2 (ct 2 - 1)) 3 (ct 3 + 1) → ct2 = upA (upA ct1 3 (ct1 3 - 1)) 4 (ct1 4 + 1) → ct3 = upA (upA ct2 4 (ct2 4 - 1)) 0 (ct2 0 + 1) → ct3 0 = ct 0 + 1 ∧ ct3 1 = ct 1 ∧ ct3 2 = ct 2 - 1 ∧ ct3 3 = ct 3 ∧ ct3 4 = ct 4 := by
  intro ct1 ct2 ct3 e1 e2 e3
  subst e1 e2 e3
  simp [upA]
theorem ct_put (ct : Nat → Int) : ∀ ct1 ct2 : Nat → Int, ct1 = upA (upA ct 0 (ct 0 - 1)) 1 (ct 1 + 1) → ct2 = upA (upA ct1 1 (ct1 1 - 1)) 2 (ct1 2 + 1) → ct2 0 = ct 0 - 1 ∧ ct2 1 = ct 1 ∧ ct2 2 = ct 2 + 1 ∧ ct2 3 = ct 3 ∧ ct2 4 = ct 4 := by
  intro ct1 ct2 e1 e2
  subst e1 e2
  simp [upA]
theorem ct_back (ct : Nat → Int) : ∀ ct1 ct2 : Nat → Int, ct1 = upA (upA ct 0 (ct 0 - 1)) 1 (ct 1 + 1) → ct2 = upA (upA ct1 1 (ct1 1 - 1)) 0 (ct1 0 + 1) → ct2 0 = ct 0 ∧ ct2 1 = ct 1 ∧ ct2 2 = ct 2 ∧ ct2 3 = ct 3 ∧ ct2 4 = ct 4 := by
  intro ct1 ct2 e1 e2
  subst e1 e2
  simp [upA]
theorem upA_eq (f : Nat → Int) (k : Nat) (v : Int) : ∀ j, upA f k v j = if j = k then v else f j := fun _ => rfl
set_option maxRecDepth 100000 in
set_option maxHeartbeats 8000000 in
theorem stale_walk (s : Int) (A : Option Addr) (n c : Nat) (l : List Ch) (w : World) (hl : ChAt w w.heap.size A n l) (hwf : ∀ d ∈ l, (Lit.int .u64 d.id).wf = true) (hn : n ≤ maxLen) :
    Calls Try.prog 4 #[.int .i64 s, .slice A n c] w (fun e w' => e = .returned (.bool true) ∧ Below w.heap.size w w') := by
  have HB := Lib.hid (begins11_true w)
  by_cases hs : 1 ≤ s ∧ s ≤ 4096
  · obtain ⟨z, rfl⟩ : ∃ z : Nat, s = (z : Int) := ⟨s.toNat, by omega⟩
    have hz1 : 1 ≤ z := by omega
    have hz2 : z ≤ 4096 := by omega
    have u1 : decide ((z : Int) < 1) = false := decide_eq_false (by omega)
    have u2 : decide (z < 1) = false := decide_eq_false (by omega)
    go_enter Try.func4, Try.ntmps4
    go_upto_region 3 with (go_at_call 5; (refine HB.out.mono ?_); rintro e w1 ⟨rfl, hb1⟩; have HB1 := Lib.hid hb1; clear hb1)
    have HN := Lib.hid (ar_new z hz1 hz2 w1)
    go_upto_region 4 with (go_at_call 12; (refine HN.out.mono ?_); rintro e w2 ⟨ap, sb, fb, rfl, hA2, hb2, hf2⟩; have HA2 := Lib.hid hA2; have HB2 := Lib.hid hb2; have HF2 := Lib.hid hf2; clear hA2 hb2 hf2)
    have HM := Lib.hid (id_new 8 (by decide) (by decide) w2)
    go_upto_region 5 with (go_at_call 6; (refine HM.out.mono ?_); rintro e w3 ⟨mp, sh, bs, rfl, hM3, hb3, hf3⟩; have HM3 := Lib.hid hM3; have HB3 := Lib.hid hb3; have HF3 := Lib.hid hf3; clear hM3 hb3 hf3)
    have hS := BtS.made (w0 := w) HA2.out (HB1.out.trans (HB2.out.mono HB1.out.size)) (fun x hx => Nat.le_trans HB1.out.size (HF2.out x hx)) HM3.out HB3.out HF3.out
    have HS := Lib.hid hS
    clear hS HB1 HN HM HA2 HB2 HF2 HM3 HB3 HF3
    by_cases h80 : n ≤ 80
    · have t1 : decide ((n : Int) > 80) = false := decide_eq_false (by omega)
      have t2 : decide (80 < n) = false := decide_eq_false (by omega)
      by_cases h40 : z ≤ 40
      · have v1 : decide ((z : Int) > 40) = false := decide_eq_false (by omega)
        have v2 : decide (40 < z) = false := decide_eq_false (by omega)
        have HL : Hid (LoopS w w3 ap sb mp sh z bs none 0 0 0) := ⟨fb, _, _, _, _, _, _, _, _, [], ⟨HS.out, World.ownsRow_nil _ _ _ _, fun k hk => by cases hk⟩, StI.start z, Nat.le_refl _, Int.le_refl _, Int.le_refl _⟩
        have HN80 := Lib.hid h80
        have HZ := Lib.hid (show 1 ≤ z ∧ z ≤ 40 from ⟨hz1, h40⟩)
        clear HS hz1 hz2 hs h80
        go_upto_region 9 with fail
        go_loopw [9, 11, 12, 13, 14, 15, 16, 18, 20, 22, 70] (fun s9 _ _ _ _ _ _ _ _ _ s70 wr => ∃ (j : Nat) (A9 : Option Addr) (q d : Nat), j ≤ n ∧ s70 = .int .i64 j ∧ s9 = .slice A9 q d ∧ Hid (LoopS w wr ap sb mp sh z bs A9 q d j)) (fun _ _ _ _ _ _ _ _ _ _ s70 _ => n - (intOf s70).toNat)
        case atStart => exact ⟨0, none, 0, 0, Nat.zero_le _, rfl, rfl, HL⟩
        case round =>
          clear HL
          obtain ⟨j, A9, q, d9, hj, rfl, rfl, HL⟩ := hrel
          by_cases hlt : j < n
          · obtain ⟨W0, hW0⟩ : ∃ q, wr = q := ⟨_, rfl⟩
            rw [hW0] at HL ⊢
            clear hW0
            have HLT := Lib.hid hlt
            obtain ⟨b, o, d, rfl, hb, hd, hr⟩ := ChAt.at_ (Rs.below hl (by obtain ⟨fb, c', st, gn, fr, ct, N, E, ver, stale, hS, _⟩ := HL.out; exact hS.t.b)) hlt
            have HWD := Lib.hid (hwf d hd)
            have HWO := Lib.hid (range_u64 (hwf d hd))
            have LD := ch_load hr
            have SG := ch_put W0 d
            have bG := put_belN W0 (.cells #[.bool false, .int .u64 0] 30) (chC d).toList
            have kG := ch_blk W0 d
            obtain ⟨w1, hw1'⟩ : ∃ q, (W0.alloc (.cells #[.bool false, .int .u64 0] 30)).setCells W0.heap.size 0 (chC d).toList = q := ⟨_, rfl⟩
            rw [hw1'] at SG bG kG
            have cD : w1.cell? ⟨W0.heap.size, 0, none⟩ = some (.bool d.drop) := kG.cell 0
            have cI : w1.cell? ⟨W0.heap.size, 1, none⟩ = some (.int .u64 d.id) := kG.cell 1
            have HKG := Lib.hid kG
            have HBG := Lib.hid bG
            clear hw1' bG kG hr hb hd
            unfold chV at LD SG
            obtain ⟨dd, di⟩ := d
            (try dsimp only at cD cI HWD HWO HKG LD SG)
            go_upto_if 75 with (first
              | refine wpList_loadE LD _ rfl rfl rfl ?_
              | refine wpList_storeE SG _ _ rfl rfl rfl rfl ?_)
            clear LD SG
            (try go_frame)
            go_cut [9, 12, 13, 14, 15] from 75 to 128 (fun s9 _ _ _ _ wx => ∃ (A9 : Option Addr) (q d : Nat), s9 = .slice A9 q d ∧ Hid (LoopS w wx ap sb mp sh z bs A9 q d (j + 1)))
            case first =>
              obtain ⟨fb, c', st, gn, fr, ct, N, E, ver, stale, hS, hI, hN, hv0, hv1⟩ := HL.out
              have HS1 := Lib.hid (hS.below HBG.out)
              have HI := Lib.hid hI
              have HNV : Hid (N ≤ 80 ∧ 0 ≤ ver ∧ ver ≤ 80) := by show _ ∧ _; have := HN80.out; have := HLT.out; omega
              have HV : Hid (N ≤ j ∧ 0 ≤ ver ∧ ver ≤ (j : Int)) := ⟨hN, hv0, hv1⟩
              have HNF : Hid (∀ x, arF ap sb fb x ∨ idF mp bs x ∨ x = sh → x < W0.heap.size) := fun x hx => hS.lt_all hx
              have HEL : Hid (fr.length + E.length = z) := hI.frl
              clear hS hI hN hv0 hv1 HL
              cases dd
              · rcases List.eq_nil_or_concat fr with rfl | ⟨fr', zz, rfl⟩
                · have HAN := Lib.hid (ar_allocN HS1.out.t.a)
                  go_wp2_with (first
                    | (go_at_call 15; (with_reducible refine HAN.out.mono ?_); rintro e w2 ⟨rfl, hb2⟩; have HS2 := Lib.hid (HS1.out.below hb2); clear hb2; have SG := ref_put w2 ⟨0, 0, 0⟩; have bG := put_belN w2 (.cells #[.int .i64 0, .int .i64 0] 32) (refC ⟨0, 0, 0⟩).toList; have kG := ref_blk w2 ⟨0, 0, 0⟩; obtain ⟨w3, hw3⟩ : ∃ q, (w2.alloc (.cells #[.int .i64 0, .int .i64 0] 32)).setCells w2.heap.size 0 (refC ⟨0, 0, 0⟩).toList = q := ⟨_, rfl⟩; rw [hw3] at SG bG kG; have BG := Lib.hid bG; have KG := Lib.hid kG; unfold refV at SG ⊢; clear bG kG hw3)
                    | refine wpList_storeE SG _ _ rfl rfl rfl rfl ?_)
                  have HF : Hid (LoopS w w3 ap sb mp sh z bs A9 q d9 (j + 1)) := ⟨_, _, _, _, _, _, _, _, _, _, HS2.out.below BG.out, HI.out.more, by have := HV.out.1; omega, by have := HV.out.2; omega, by have := HV.out.2; omega⟩
                  go_meet
                  exact ⟨_, _, _, rfl, HF⟩
                · rw [List.concat_eq_append] at HS1 HI HEL
                  obtain ⟨k, e1, e2, e3, e4⟩ := HI.out.free zz (by simp)
                  subst e1
                  obtain ⟨gk, hgk⟩ : ∃ g, gn k = g := ⟨_, rfl⟩
                  have HK : Hid (1 ≤ k ∧ k ≤ z ∧ st k = 0 ∧ gn k = gk) := ⟨e2, e3, e4, hgk⟩
                  have HC : Hid (fr'.length + 1 + E.length = z ∧ ct 0 = (z : Int) - (E.length : Int)) := ⟨by have := HEL.out; rw [List.length_append, List.length_singleton] at this; exact this, HI.out.c0⟩
                  obtain ⟨ct1, hct1⟩ : ∃ q, upA (upA ct 0 (ct 0 - 1)) 1 (ct 1 + 1) = q := ⟨_, rfl⟩
                  have h12 : ct1 1 = 1 ∧ ct1 2 = ct 2 ∧ ct1 0 = ct 0 - 1 := by rw [← hct1]; simp [upA, HI.out.c1]
                  have H12 := Lib.hid h12
                  have hAL := ar_alloc k HS1.out.t.a e2 e3 e4 (by have h1 := HC.out; have h2 := HZ.out; omega) (by rw [HI.out.c1]; omega) (by have h1 := HC.out; have h2 := HZ.out; omega)
                  rw [hgk, hct1] at hAL
                  have HAL := Lib.hid hAL
                  have HCT1 := Lib.hid hct1
                  clear hAL hct1 h12 e2 e3 e4 hgk
                  go_upto_region 19 with (first
                    | (go_at_call 15; (with_reducible refine HAL.out.mono ?_); rintro e w2 ⟨rfl, hA2, hT2⟩; have HS2 := Lib.hid (HS1.out.arena hT2 hA2 (.inl rfl)); have HKG2 := Lib.hid (HKG.out.tch hT2 (fun q => by have := HNF.out _ (.inl q); omega)); clear hA2 hT2; have SG := ref_put w2 ⟨0, (k : Int), gk⟩; have bG := put_belN w2 (.cells #[.int .i64 0, .int .i64 0] 32) (refC ⟨0, (k : Int), gk⟩).toList; have kG := ref_blk w2 ⟨0, (k : Int), gk⟩; obtain ⟨w3, hw3⟩ : ∃ q, (w2.alloc (.cells #[.int .i64 0, .int .i64 0] 32)).setCells w2.heap.size 0 (refC ⟨0, (k : Int), gk⟩).toList = q := ⟨_, rfl⟩; rw [hw3] at SG bG kG; have BG := Lib.hid bG; have KG := Lib.hid kG; unfold refV at SG ⊢; clear bG kG hw3)
                    | refine wpList_storeE SG _ _ rfl rfl rfl rfl ?_)
                  have HS3 := Lib.hid (HS2.out.below BG.out)
                  have cI3 : w3.cell? ⟨W0.heap.size, 1, none⟩ = some (.int .u64 di) := (HKG2.out.below BG.out HKG2.out.lt).cell 1
                  have LX := ref_load KG.out
                  have HNB : Hid (∀ x, arF ap sb fb x ∨ idF mp bs x ∨ x = sh → x ≠ w2.heap.size) := fun x hx e => by have h1 := HS2.out.lt_all hx; omega
                  have hP := id_put HS3.out.t.m ⟨di, (k : Int), gk⟩ HWO.out HWD.out (by have := HNV.out.1; omega) ⟨HNV.out.2.1, by have := HNV.out.2.2; omega⟩
                  have HI1 := HI
                  by_cases his : (E.any fun y => y.id == di) = true
                  · have hpl : putL E ⟨di, (k : Int), gk⟩ = E := by unfold putL; rw [if_pos his]
                    rw [hpl] at hP
                    simp only [his] at hP
                    have HP := Lib.hid hP
                    unfold refV at LX HP
                    obtain ⟨ct2, hct2⟩ : ∃ q, upA (upA ct1 1 (ct1 1 - 1)) 0 (ct1 0 + 1) = q := ⟨_, rfl⟩
                    have HCT2 := Lib.hid hct2
                    clear hP SG hct2 hpl his cI cD HAL HS1 HS2
                    go_wp2_with (first
                      | refine wpList_loadE LX _ rfl rfl rfl ?_
                      | (go_at_call 8; (refine HP.out.mono ?_); rintro e w4 ⟨rfl, hT4, hM4⟩; have HS4 := Lib.hid (HS3.out.map hT4 hM4); have HKG4 := Lib.hid (KG.out.tch hT4 (fun q => HNB.out _ (.inr (.inl q)) rfl)); have c40 : w4.cell? ⟨w2.heap.size, 0, none⟩ = some (.int .i64 (k : Int)) := HKG4.out.cell 0; have hm3 := ar_free HS4.out.t.a k HK.out.1 HK.out.2.1 1 (upA_self _ _ _) (.inl rfl) (by have := H12.out.1; omega) (by have h1 := H12.out.2.2; have h2 := HC.out; have h3 := HZ.out; omega) (by have h1 := HI.out.gb k; have h2 := HLT.out; have h3 := HN80.out; omega) (by have h1 := HC.out; have h3 := HZ.out; omega); rw [HCT2.out] at hm3; have HM3 := Lib.hid hm3; clear hM4 hT4 hm3)
                      | (go_at_call 14; (with_reducible refine HM3.out.mono ?_); rintro e w5 ⟨rfl, ⟨fb', c6, hA6, hf6⟩, hT6⟩; have HS5 := Lib.hid (HS4.out.arena hT6 hA6 hf6); clear hA6 hT6 hf6))
                    have HI2 := Lib.hid (HI.out.back (st' := upA (upA st k 1) k 0) (gn' := upA gn k (gn k + 1)) (ct' := ct2) (fun j => by simp only [upA]; split <;> rfl) (fun j => by simp only [upA]; split; (rename_i h; rw [h]); rfl) (ct_back ct ct1 ct2 HCT1.out.symm HCT2.out.symm))
                    have HF : Hid (LoopS w w5 ap sb mp sh z bs A9 q d9 (j + 1)) := ⟨_, _, _, _, _, _, _, _, _, _, HS5.out, HI2.out, by have := HV.out.1; omega, by have := putV_bd E di HV.out.2; omega, by have := putV_bd E di HV.out.2; omega⟩
                    go_meet
                    exact ⟨_, _, _, rfl, HF⟩
                  · have hno : (E.any fun y => y.id == di) = false := by simpa using his
                    have hpl : putL E ⟨di, (k : Int), gk⟩ = E ++ [⟨di, (k : Int), gk⟩] := by unfold putL; rw [if_neg his]
                    rw [hpl] at hP
                    simp only [hno] at hP
                    have HP := Lib.hid hP
                    unfold refV at LX HP
                    obtain ⟨ct2, hct2⟩ : ∃ q, upA (upA ct1 1 (ct1 1 - 1)) 2 (ct1 2 + 1) = q := ⟨_, rfl⟩
                    have HCT2 := Lib.hid hct2
                    clear hP SG hct2 hpl his hno cI cD HAL HS1 HS2
                    go_wp2_with (first
                      | refine wpList_loadE LX _ rfl rfl rfl ?_
                      | (go_at_call 8; (refine HP.out.mono ?_); rintro e w4 ⟨rfl, hT4, hM4⟩; have HS4 := Lib.hid (HS3.out.map hT4 hM4); have HKG4 := Lib.hid (KG.out.tch hT4 (fun q => HNB.out _ (.inr (.inl q)) rfl)); have c40 : w4.cell? ⟨w2.heap.size, 0, none⟩ = some (.int .i64 (k : Int)) := HKG4.out.cell 0; have hm3 := ar_move HS4.out.t.a k HK.out.1 HK.out.2.1 1 (upA_self _ _ _) (by decide) (by decide) (by have := H12.out.1; omega) (by have h0 := H12.out.2.1; have h1 := HI.out.c2; have h2 := HC.out; have h3 := HZ.out; show 0 ≤ ct1 2 ∧ ct1 2 ≤ 1048576; omega) 2 rfl; rw [HCT2.out] at hm3; have HM3 := Lib.hid hm3; clear hM4 hT4 hm3)
                      | (go_at_call 13; (with_reducible refine HM3.out.mono ?_); rintro e w5 ⟨rfl, hA6, hT6⟩; have HS5 := Lib.hid (HS4.out.arena hT6 hA6 (.inl rfl)); clear hA6 hT6))
                    have HI2 := Lib.hid (HI.out.put (id := di) (st' := upA (upA st k 1) k 2) (ct' := ct2) (fun j => by simp only [upA]; split <;> rfl) (ct_put ct ct1 ct2 HCT1.out.symm HCT2.out.symm))
                    have HF : Hid (LoopS w w5 ap sb mp sh z bs A9 q d9 (j + 1)) := ⟨_, _, _, _, _, _, _, _, _, _, HS5.out, by have := HI2.out; rw [HK.out.2.2.2] at this; exact this, by have := HV.out.1; omega, by have := putV_bd E di HV.out.2; omega, by have := putV_bd E di HV.out.2; omega⟩
                    go_meet
                    exact ⟨_, _, _, rfl, HF⟩
              · have hDA := id_drop HS1.out.t.m di HWO.out HWD.out ⟨HNV.out.2.1, by have := HNV.out.2.2; omega⟩
                by_cases his : (E.any fun y => y.id == di) = true
                · obtain ⟨x, hx, hxi⟩ := any_id.1 his
                  have hg : getN E di = x := by rw [← hxi]; exact getN_of HS1.out.t.m.e hx
                  rw [hg, his] at hDA
                  obtain ⟨k, e1, e2, e3, e4, e5⟩ := HI.out.live x hx
                  obtain ⟨xi, xs, xg⟩ := x
                  (try dsimp only at e1 e5 hxi)
                  subst e1
                  subst hxi
                  have HX := Lib.hid hx
                  have HPE := Lib.hid HS1.out.t.m.e
                  have HK : Hid (1 ≤ k ∧ k ≤ z ∧ st k = 2 ∧ gn k = xg) := ⟨e2, e3, e4, e5⟩
                  have HDA := Lib.hid hDA
                  have HC : Hid (1 ≤ E.length ∧ E.length ≤ 40 ∧ fr.length ≤ 40) := ⟨List.length_pos_of_mem hx, by have h1 := HEL.out; have h2 := HZ.out; omega, by have h1 := HEL.out; have h2 := HZ.out; omega⟩
                  clear hDA hx hg his e2 e3 e4 e5
                  go_upto_region 14 with (first
                    | (go_at_call 7; (refine HDA.out.mono ?_); rintro e w2 ⟨rfl, hT2, hA2⟩; have HS2 := Lib.hid (HS1.out.map hT2 hA2); have HT2 := Lib.hid hT2; clear hT2 hA2; have SG := ref_put w2 ⟨xi, (k : Int), xg⟩; have bG := put_belN w2 (.cells #[.int .i64 0, .int .i64 0] 32) (refC ⟨xi, (k : Int), xg⟩).toList; have kG := ref_blk w2 ⟨xi, (k : Int), xg⟩; obtain ⟨w3, hw3⟩ : ∃ q, (w2.alloc (.cells #[.int .i64 0, .int .i64 0] 32)).setCells w2.heap.size 0 (refC ⟨xi, (k : Int), xg⟩).toList = q := ⟨_, rfl⟩; rw [hw3] at SG bG kG; have BG := Lib.hid bG; have KG := Lib.hid kG; unfold refV at SG ⊢; clear bG kG hw3)
                    | refine wpList_storeE SG _ _ rfl rfl rfl rfl ?_)
                  have HS3 := Lib.hid (HS2.out.below BG.out)
                  have HNB : Hid (∀ x, arF ap sb fb x → x ≠ w2.heap.size) := fun x hx e => by have h1 := HS2.out.lt_all (.inl hx); omega
                  have c30 : w3.cell? ⟨w2.heap.size, 0, none⟩ = some (.int .i64 (k : Int)) := KG.out.cell 0
                  obtain ⟨ct1, hct1⟩ : ∃ q, upA (upA ct 2 (ct 2 - 1)) 3 (ct 3 + 1) = q := ⟨_, rfl⟩
                  obtain ⟨ct2, hct2⟩ : ∃ q, upA (upA ct1 3 (ct1 3 - 1)) 4 (ct1 4 + 1) = q := ⟨_, rfl⟩
                  obtain ⟨ct3, hct3⟩ : ∃ q, upA (upA ct2 4 (ct2 4 - 1)) 0 (ct2 0 + 1) = q := ⟨_, rfl⟩
                  have HCT := Lib.hid (ct_drop ct ct1 ct2 ct3 hct1.symm hct2.symm hct3.symm)
                  have h13 : ct1 3 = 1 ∧ ct1 4 = 0 ∧ ct1 0 = ct 0 := by rw [← hct1]; simp [upA, HI.out.c3, HI.out.c4]
                  have h24 : ct2 4 = 1 ∧ ct2 0 = ct 0 := by rw [← hct2]; simp [upA, h13.2.1, h13.2.2]
                  have H13 := Lib.hid h13
                  have H24 := Lib.hid h24
                  have hm1 := ar_move HS3.out.t.a k HK.out.1 HK.out.2.1 2 HK.out.2.2.1 (by decide) (by decide) (by rw [HI.out.c2]; have := HC.out; omega) (by rw [HI.out.c3]; omega) 3 rfl
                  rw [hct1] at hm1
                  have HM1 := Lib.hid hm1
                  have HCT2 := Lib.hid hct2
                  have HCT3 := Lib.hid hct3
                  clear h13 h24 hm1 hct1 hct2 hct3 SG HDA cD cI HS1
                  go_upto_if 102 with (first
                    | (go_at_call 13; (with_reducible refine HM1.out.mono ?_); rintro e w4 ⟨rfl, hA4, hT4⟩; have HS4 := Lib.hid (HS3.out.arena hT4 hA4 (.inl rfl)); have HKG4 := Lib.hid (KG.out.tch hT4 (fun q => HNB.out _ q rfl)); have c40 : w4.cell? ⟨w2.heap.size, 0, none⟩ = some (.int .i64 (k : Int)) := HKG4.out.cell 0; have hm2 := ar_move HS4.out.t.a k HK.out.1 HK.out.2.1 3 (upA_self _ _ _) (by decide) (by decide) (by have := H13.out; omega) (by have := H13.out.2.1; show 0 ≤ ct1 4 ∧ ct1 4 ≤ 1048576; omega) 4 rfl; rw [HCT2.out] at hm2; have HM2 := Lib.hid hm2; clear hA4 hT4 hm2)
                    | (go_at_call 13; (with_reducible refine HM2.out.mono ?_); rintro e w5 ⟨rfl, hA5, hT5⟩; have HS5 := Lib.hid (HS4.out.arena hT5 hA5 (.inl rfl)); have HKG5 := Lib.hid (HKG4.out.tch hT5 (fun q => HNB.out _ q rfl)); have c50 : w5.cell? ⟨w2.heap.size, 0, none⟩ = some (.int .i64 (k : Int)) := HKG5.out.cell 0; have hm3 := ar_free HS5.out.t.a k HK.out.1 HK.out.2.1 4 (upA_self _ _ _) (.inr rfl) (by have := H24.out; omega) (by have := H24.out.2; have h1 := HI.out.c0; have h2 := HC.out; have h3 := HZ.out; have h4 := HEL.out; omega) (by have h1 := HI.out.gb k; have h2 := HLT.out; have h3 := HN80.out; omega) (by have := HC.out; omega); rw [HCT3.out] at hm3; have HM3 := Lib.hid hm3; clear hA5 hT5 hm3)
                    | (go_at_call 14; (with_reducible refine HM3.out.mono ?_); rintro e w6 ⟨rfl, ⟨fb', c6, hA6, hf6⟩, hT6⟩; have HS6 := Lib.hid (HS5.out.arena hT6 hA6 hf6); have HKG6 := Lib.hid (HKG5.out.tch hT6 (fun q => HNB.out _ q rfl)); clear hA6 hT6 hf6))
                  have LX := ref_load HKG6.out
                  have hbs : ∀ w, (Instr.buildSlice 45 1 #[(0, .agg #[.int .i64 (k : Int), .int .i64 xg])]).run Try.prog w = .ok (.slice (some ⟨w.heap.size, 0, none⟩) 1 1) (w.alloc (.cells #[.int .i64 (k : Int), .int .i64 xg] 32)) := fun w => run_refR w ⟨xi, (k : Int), xg⟩
                  have hsl : stale.length = q := by have := HS6.out.r.1; rw [flatR_len] at this; omega
                  have hql : q ≤ 1099511627776 := by have h1 := HI.out.stl; have h2 := HLT.out; have h3 := HN80.out; omega
                  have HI2 := Lib.hid (HI.out.drop HPE.out HX.out (k := k) rfl (st' := upA (upA (upA st k 3) k 4) k 0) (gn' := upA gn k (gn k + 1)) (ct' := ct3) (fun j => by simp only [upA]; split <;> rfl) (fun j => by simp only [upA]; split; (rename_i h; rw [h]); rfl) HCT.out)
                  unfold refV at LX
                  clear hsl c30 c40 c50 HM1 HM2 HM3 HS2 HS3 HS4 HS5 HKG4 HKG5 KG BG HI
                  go_wp2_with (first
                    | refine wpList_loadE LX _ rfl rfl rfl ?_
                    | (at_builtin; refine wpList_push1 rfl (.tmp 103) (.tmp 105) 45 32 2 16 _ rfl Try.underlying45 info_refR rfl (by decide) w6 w.heap.size _ q _ #[.int .i64 (k : Int), .int .i64 xg] rfl HS6.out.r rfl rfl (by simp [Value.oneCell']) hql (by decide) HS6.out.t.b.size ?_; intro g2 c7 W7 ho hgr hb hat; replace ho := Lib.hid ho; replace hgr := Lib.hid hgr; replace hb := Lib.hid hb; replace hat := Lib.hid hat))
                  have hS7 := HS6.out.push (x := ⟨0, (k : Int), xg⟩) hgr.out hb.out hat.out (by rw [flatR_snoc]; exact ho.out)
                  have HF : Hid (LoopS w W7 ap sb mp sh z bs (some ⟨g2, 0, none⟩) (q + 1) c7 (j + 1)) := ⟨_, _, _, _, _, _, _, _, _, _, hS7, HI2.out, by have := HV.out.1; omega, by have := dropV_bd E xi HV.out.2; omega, by have := dropV_bd E xi HV.out.2; omega⟩
                  clear hS7
                  go_meet
                  exact ⟨_, _, _, rfl, HF⟩
                · have hno : (E.any fun y => y.id == di) = false := by simpa using his
                  have hdl := dropL_no hno
                  obtain ⟨x, hx⟩ : ∃ x, getN E di = x := ⟨_, rfl⟩
                  rw [hno, hx, hdl] at hDA
                  have HDA := Lib.hid hDA
                  clear hDA hdl hx his
                  obtain ⟨xi, xs, xg⟩ := x
                  go_wp2_with (first
                    | (go_at_call 7; (refine HDA.out.mono ?_); rintro e w2 ⟨rfl, hT2, hA2⟩; have HS2 := Lib.hid (HS1.out.map hT2 hA2); have HT2 := Lib.hid hT2; clear hT2 hA2; have SG := ref_put w2 ⟨xi, xs, xg⟩; have bG := put_belN w2 (.cells #[.int .i64 0, .int .i64 0] 32) (refC ⟨xi, xs, xg⟩).toList; have kG := ref_blk w2 ⟨xi, xs, xg⟩; obtain ⟨w3, hw3⟩ : ∃ q, (w2.alloc (.cells #[.int .i64 0, .int .i64 0] 32)).setCells w2.heap.size 0 (refC ⟨xi, xs, xg⟩).toList = q := ⟨_, rfl⟩; rw [hw3] at SG bG kG; have BG := Lib.hid bG; have KG := Lib.hid kG; unfold refV at SG ⊢; clear bG kG hw3)
                    | refine wpList_storeE SG _ _ rfl rfl rfl rfl ?_)
                  have HF : Hid (LoopS w w3 ap sb mp sh z bs A9 q d9 (j + 1)) := ⟨_, _, _, _, _, _, _, _, _, _, HS2.out.below BG.out, HI.out.more, by have := HV.out.1; omega, by have := dropV_bd E di HV.out.2; omega, by have := dropV_bd E di HV.out.2; omega⟩
                  go_meet
                  exact ⟨_, _, _, rfl, HF⟩
            case rest =>
              clear HL HKG HBG cD cI HWD HWO
              obtain ⟨A9', q', d9', rfl, HL⟩ := hcut
              obtain ⟨W, hW⟩ : ∃ q, wc = q := ⟨_, rfl⟩
              rw [hW] at HL ⊢
              clear hW
              obtain ⟨fb, c', st, gn, fr, ct, N, E, ver, stale, hS, hI, hN, hv0, hv1⟩ := HL.out
              have HS := Lib.hid hS
              have HI := Lib.hid hI
              have hE40 : E.length ≤ 40 := by have h1 := hI.frl; have h2 := HZ.out; omega
              have HE40 := Lib.hid hE40
              have HLA := Lib.hid (id_list hS.t.m (Nat.le_trans hE40 (by decide)))
              have HV : Hid (N ≤ j + 1 ∧ 0 ≤ ver ∧ ver ≤ ((j + 1 : Nat) : Int)) := ⟨hN, hv0, hv1⟩
              clear hS hI hN hv0 hv1 hE40
              go_upto_region 26 with (go_at_call 9; (with_reducible refine HLA.out.mono ?_); rintro e V1 ⟨A1, n1, c1, rfl, hN1, _, _, hb1⟩; have HN1 := Lib.hid hN1; have HB1 := Lib.hid hb1; obtain rfl : n1 = E.length := (NmAt.len hN1).symm.trans (sortN_len E); clear hN1 hb1)
              have HS1 := Lib.hid (HS.out.below HB1.out)
              obtain ⟨m, hm⟩ : ∃ m, E.length = m := ⟨_, rfl⟩
              rw [hm] at HN1 ⊢
              have HMM := Lib.hid hm
              have hm40 : m ≤ 40 := by have := HE40.out; omega
              have HPW : Hid ((sortN E).Pairwise fun x y => x.slot ≠ y.slot) := (((sortN_perm E).pairwise_iff (fun {_ _} h => Ne.symm h)).2 HI.out.sl)
              have HQ : Hid (RfsAt V1 V1.heap.size A9' q' stale) := rfs_of_own HS1.out.r
              have hq80 : q' ≤ 81 := by have h1 := Rs.len HQ.out; rw [List.length_map] at h1; have h2 := HI.out.stl; have h3 := HLT.out; have h4 := HN80.out; omega
              have HMEM : Hid (∀ x ∈ sortN E, ∃ k : Nat, x.slot = (k : Int) ∧ 1 ≤ k ∧ k ≤ z ∧ st k = 2 ∧ gn k = x.gen) := fun x hx => HI.out.live x ((sortN_perm E).mem_iff.1 hx)
              clear hm HLA HS HB1
              go_loopw [16, 18, 20, 22, 132] (fun s16 _ _ _ s132 wx => ∃ (k : Nat) (AU : Option Addr) (cU : Nat), k ≤ m ∧ s132 = .int .i64 k ∧ s16 = .slice AU k cU ∧ Hid (Below V1.heap.size V1 wx) ∧ Hid (wx.ownsRow V1.heap.size 3 1 (.slice AU k cU) k ((((sortN E).take k).map (·.slot)).map (.int .i64)))) (fun _ _ _ _ s132 _ => m - (intOf s132).toNat)
              case atStart => exact ⟨0, none, 0, Nat.zero_le _, rfl, rfl, Lib.hid (Below.refl _ _), World.ownsRow_nil _ _ _ _⟩
              case round =>
                obtain ⟨k, AU, cU, hk, rfl, rfl, HBX, HU⟩ := hrel
                by_cases hkm : k < m
                · obtain ⟨b1, o1, x1, rfl, hb1, hx1, hr1⟩ := (HN1.out.below HBX.out).at_ hkm
                  obtain ⟨wy, hwy⟩ : ∃ q, wr = q := ⟨_, rfl⟩
                  rw [hwy] at hr1 HBX HU ⊢
                  have HKT := Lib.hid hkm
                  have LN := nm_load hr1
                  obtain ⟨y, y1, y2, y3, y4, y5⟩ := HMEM.out x1 (List.mem_of_getElem? hx1)
                  obtain ⟨xi, xs, xg⟩ := x1
                  (try dsimp only at y1 y5)
                  subst y1
                  have HY : Hid (1 ≤ y ∧ y ≤ z ∧ st y = 2 ∧ gn y = xg) := ⟨y2, y3, y4, y5⟩
                  have HX1 := Lib.hid hx1
                  have SG := nm_put wy ⟨xi, (y : Int), xg⟩
                  have bG := put_belN wy (.cells #[.int .u64 0, .int .i64 0, .int .i64 0] 40) (nmC ⟨xi, (y : Int), xg⟩).toList
                  have kG := nm_blk wy ⟨xi, (y : Int), xg⟩
                  obtain ⟨w1, hw1'⟩ : ∃ q, (wy.alloc (.cells #[.int .u64 0, .int .i64 0, .int .i64 0] 40)).setCells wy.heap.size 0 (nmC ⟨xi, (y : Int), xg⟩).toList = q := ⟨_, rfl⟩
                  rw [hw1'] at SG bG kG
                  have HBX1 := Lib.hid (HBX.out.trans (bG.mono HBX.out.size))
                  have HU1 : Hid (w1.ownsRow V1.heap.size 3 1 (.slice AU k cU) k ((((sortN E).take k).map (·.slot)).map (.int .i64))) := ownsRow_tch HU.out (Tch.of_below (S := fun _ => False) bG) (fun _ _ q => q)
                  have HKG := Lib.hid kG
                  have cs1 : w1.cell? ⟨wy.heap.size, 1, none⟩ = some (.int .i64 (y : Int)) := kG.cell 1
                  have HBG := Lib.hid bG
                  have HKL : Hid (∀ g, (Value.slice AU k cU).ownBlock = some g → g < wy.heap.size) := fun g hg => (HU.out.lt g hg).2
                  clear hwy hr1 hx1 hb1 hw1' bG kG y2 y3 y4 y5 HBX HU
                  unfold nmV at LN SG
                  go_upto_region 29 with (first
                    | refine wpList_loadE LN _ rfl rfl rfl ?_
                    | refine wpList_storeE SG _ _ rfl rfl rfl rfl ?_)
                  clear LN SG
                  go_loopw [20, 138] (fun _ s138 wx => ∃ i : Nat, i ≤ k ∧ s138 = .int .i64 i ∧ Hid (wx = w1)) (fun _ s138 _ => k - (intOf s138).toNat)
                  case atStart => exact ⟨0, Nat.zero_le _, rfl, Lib.hid rfl⟩
                  case round =>
                    obtain ⟨i, hi, rfl, HWE⟩ := hrel
                    have hwe := HWE.out
                    subst hwe
                    by_cases hik : i < k
                    · obtain ⟨b2, o2, u2, e2, hb2, hu2, hc2⟩ := (Rd.of_own HU1.out).at_ hik
                      subst e2
                      rw [List.getElem?_map, List.getElem?_map, List.getElem?_take, if_pos hik] at hu2
                      obtain ⟨v2, hv2, rfl⟩ := Option.map_eq_some_iff.1 hu2
                      obtain ⟨x2, hx2, rfl⟩ := Option.map_eq_some_iff.1 hv2
                      have hne : x2.slot ≠ (y : Int) := by
                        have hpw := HPW.out
                        rw [List.pairwise_iff_getElem] at hpw
                        obtain ⟨a1, a2⟩ := List.getElem?_eq_some_iff.1 hx2
                        obtain ⟨a3, a4⟩ := List.getElem?_eq_some_iff.1 HX1.out
                        have := hpw i k a1 a3 hik
                        rw [a2, a4] at this
                        exact this
                      have q1 : (x2.slot == (y : Int)) = false := by simpa using hne
                      have q2 : decide (x2.slot = (y : Int)) = false := decide_eq_false hne
                      have HIK := Lib.hid hik
                      obtain ⟨x2s, hx2s⟩ : ∃ q, x2.slot = q := ⟨_, rfl⟩
                      rw [hx2s] at hc2 q1 q2
                      clear hne hx2 hv2 hu2 hx2s
                      go_wp2_with fail
                      go_roundw
                      case rel => exact ⟨i + 1, by have := HIK.out; omega, by go_num, by first | trivial | exact Lib.hid rfl⟩
                      case measure => have := HIK.out; simp [intOf]; omega
                    · obtain rfl : i = k := by omega
                      have hbs : ∀ w, (Instr.buildSlice 49 1 #[(0, .int .i64 (y : Int))]).run Try.prog w = .ok (.slice (some ⟨w.heap.size, 0, none⟩) 1 1) (w.alloc (.cells #[.int .i64 (y : Int)] 3)) := fun w => run_intN w (y : Int)
                      have hi40 : i ≤ 1099511627776 := by omega
                      go_upto_region 35 with (at_builtin; refine wpList_push1 rfl (.tmp 148) (.tmp 152) 49 3 1 8 _ rfl Try.underlying49 info_intA rfl (by decide) wr V1.heap.size _ i _ #[.int .i64 (y : Int)] rfl HU1.out rfl rfl (by simp [Value.oneCell']) hi40 (by decide) HBX1.out.size ?_; intro g2 c7 W7 ho hgr hb hat; replace ho := Lib.hid ho; replace hgr := Lib.hid hgr; replace hb := Lib.hid hb; clear hat)
                      have hKG7 := HKG.out.grown hgr.out (fun e => by have h1 := HKL.out _ e.symm; omega)
                      have HKG7 := Lib.hid hKG7
                      have hS7 := HS1.out.below (HBX1.out.trans hb.out)
                      have HS7 := Lib.hid hS7
                      have hST : ∀ X : World, Below W7.heap.size W7 X → Calls Try.prog 16 #[.pointer (some ⟨ap, 0, none⟩), .int .i64 (y : Int)] X (fun e w' => e = .returned (.int .i64 2) ∧ X = w') := fun X hX => by
                        have h := ar_state (HS7.out.below hX).t.a y HY.out.1 HY.out.2.1
                        rw [HY.out.2.2.1] at h
                        exact h
                      have hGN : ∀ X : World, Below W7.heap.size W7 X → Calls Try.prog 17 #[.pointer (some ⟨ap, 0, none⟩), .int .i64 (y : Int)] X (fun e w' => e = .returned (.int .i64 xg) ∧ X = w') := fun X hX => by
                        have h := ar_gen (HS7.out.below hX).t.a y HY.out.1 HY.out.2.1
                        rw [HY.out.2.2.2] at h
                        exact h
                      clear hKG7 hS7 cs1
                      refine wp_region_held_drew (S := fun w' => Below W7.heap.size W7 w') (by kernel_rfl) (below_drewN (Below.refl _ W7) 1) (fun hH => ?_)
                      refine wpAnyH_take (i := 0) (v := .pointer (some ⟨ap, 0, none⟩)) rfl (by kernel_rfl) (by kernel_rfl) (by kernel_rfl) (fun _ _ _ h => h) (.inl ⟨by rfl, fun _ _ => by kernel_rfl⟩) hH ?_
                      (try simp only [List.getElem_toArray, List.getElem_cons_zero, Act.put, List.setIfInBounds_toArray, List.set_cons_zero, List.set_cons_succ])
                      refine wpAnyH_take (i := 1) (v := .pointer (some ⟨wy.heap.size, 1, none⟩)) rfl (by kernel_rfl) (by kernel_rfl) (by kernel_rfl) (fun _ _ _ h => h) (.inl ⟨by rfl, fun _ _ => by kernel_rfl⟩) hH ?_
                      (try simp only [List.getElem_toArray, List.getElem_cons_zero, List.getElem_cons_succ, Act.put, List.setIfInBounds_toArray, List.set_cons_zero, List.set_cons_succ])
                      refine wpAnyH_take (i := 2) (v := .pointer (some ⟨wy.heap.size, 1, none⟩)) rfl (by kernel_rfl) (by kernel_rfl) (by kernel_rfl) (fun _ _ _ h => h) (.inl ⟨by rfl, fun _ _ => by kernel_rfl⟩) hH ?_
                      (try simp only [List.getElem_toArray, List.getElem_cons_zero, List.getElem_cons_succ, Act.put, List.setIfInBounds_toArray, List.set_cons_zero, List.set_cons_succ])
                      refine wpAnyH_take (i := 3) (v := .int .i64 (y : Int)) rfl (by kernel_rfl) (by kernel_rfl) (by kernel_rfl) (fun _ _ _ h => h) (yieldsIf_loadP (by rfl) _ rfl rfl (fun _ q => load_i64N ((HKG7.out.below q HKG7.out.lt).cell 1))) hH ?_
                      (try simp only [List.getElem_toArray, List.getElem_cons_zero, List.getElem_cons_succ, Act.put, List.setIfInBounds_toArray, List.set_cons_zero, List.set_cons_succ])
                      refine wpAnyH_call 4 16 #[.pointer (some ⟨ap, 0, none⟩), .int .i64 (y : Int)] _ (by kernel_rfl) (by rfl) (by kernel_rfl) (by kernel_rfl) (hST _ hH) ?_
                      rintro e X4 ⟨rfl, rfl⟩
                      refine ⟨_, rfl, hH, ?_⟩
                      (try simp only [List.getElem_toArray, List.getElem_cons_zero, List.getElem_cons_succ, Act.put, List.setIfInBounds_toArray, List.set_cons_zero, List.set_cons_succ])
                      refine wpAnyH_take (i := 5) (v := .bool false) rfl (by kernel_rfl) (by kernel_rfl) (by kernel_rfl) (fun _ _ _ h => h) (.inl ⟨by rfl, fun _ _ => by kernel_rfl⟩) hH ?_
                      (try simp only [List.getElem_toArray, List.getElem_cons_zero, List.getElem_cons_succ, Act.put, List.setIfInBounds_toArray, List.set_cons_zero, List.set_cons_succ])
                      refine wpAnyH_take (i := 6) (v := .bool false) rfl (by kernel_rfl) (by kernel_rfl) (by kernel_rfl) (fun _ _ _ h => h) (.inl ⟨by rfl, fun _ _ => by kernel_rfl⟩) hH ?_
                      (try simp only [List.getElem_toArray, List.getElem_cons_zero, List.getElem_cons_succ, Act.put, List.setIfInBounds_toArray, List.set_cons_zero, List.set_cons_succ])
                      refine wpAnyH_take (i := 7) (v := .pointer (some ⟨ap, 0, none⟩)) rfl (by kernel_rfl) (by kernel_rfl) (by kernel_rfl) (fun _ _ _ h => h) (.inl ⟨by rfl, fun _ _ => by kernel_rfl⟩) hH ?_
                      (try simp only [List.getElem_toArray, List.getElem_cons_zero, List.getElem_cons_succ, Act.put, List.setIfInBounds_toArray, List.set_cons_zero, List.set_cons_succ])
                      refine wpAnyH_take (i := 8) (v := .pointer (some ⟨wy.heap.size, 1, none⟩)) rfl (by kernel_rfl) (by kernel_rfl) (by kernel_rfl) (fun _ _ _ h => h) (.inl ⟨by rfl, fun _ _ => by kernel_rfl⟩) hH ?_
                      (try simp only [List.getElem_toArray, List.getElem_cons_zero, List.getElem_cons_succ, Act.put, List.setIfInBounds_toArray, List.set_cons_zero, List.set_cons_succ])
                      refine wpAnyH_take (i := 9) (v := .pointer (some ⟨wy.heap.size, 1, none⟩)) rfl (by kernel_rfl) (by kernel_rfl) (by kernel_rfl) (fun _ _ _ h => h) (.inl ⟨by rfl, fun _ _ => by kernel_rfl⟩) hH ?_
                      (try simp only [List.getElem_toArray, List.getElem_cons_zero, List.getElem_cons_succ, Act.put, List.setIfInBounds_toArray, List.set_cons_zero, List.set_cons_succ])
                      refine wpAnyH_take (i := 10) (v := .int .i64 (y : Int)) rfl (by kernel_rfl) (by kernel_rfl) (by kernel_rfl) (fun _ _ _ h => h) (yieldsIf_loadP (by rfl) _ rfl rfl (fun _ q => load_i64N ((HKG7.out.below q HKG7.out.lt).cell 1))) hH ?_
                      (try simp only [List.getElem_toArray, List.getElem_cons_zero, List.getElem_cons_succ, Act.put, List.setIfInBounds_toArray, List.set_cons_zero, List.set_cons_succ])
                      refine wpAnyH_take (i := 12) (v := .pointer (some ⟨wy.heap.size, 1, none⟩)) rfl (by kernel_rfl) (by kernel_rfl) (by kernel_rfl) (fun _ _ _ h => h) (.inl ⟨by rfl, fun _ _ => by kernel_rfl⟩) hH ?_
                      (try simp only [List.getElem_toArray, List.getElem_cons_zero, List.getElem_cons_succ, Act.put, List.setIfInBounds_toArray, List.set_cons_zero, List.set_cons_succ])
                      refine wpAnyH_take (i := 13) (v := .pointer (some ⟨wy.heap.size, 2, none⟩)) rfl (by kernel_rfl) (by kernel_rfl) (by kernel_rfl) (fun _ _ _ h => h) (.inl ⟨by rfl, fun _ _ => by kernel_rfl⟩) hH ?_
                      (try simp only [List.getElem_toArray, List.getElem_cons_zero, List.getElem_cons_succ, Act.put, List.setIfInBounds_toArray, List.set_cons_zero, List.set_cons_succ])
                      refine wpAnyH_take (i := 14) (v := .int .i64 xg) rfl (by kernel_rfl) (by kernel_rfl) (by kernel_rfl) (fun _ _ _ h => h) (yieldsIf_loadP (by rfl) _ rfl rfl (fun _ q => load_i64N ((HKG7.out.below q HKG7.out.lt).cell 2))) hH ?_
                      (try simp only [List.getElem_toArray, List.getElem_cons_zero, List.getElem_cons_succ, Act.put, List.setIfInBounds_toArray, List.set_cons_zero, List.set_cons_succ])
                      refine wpAnyH_call 11 17 #[.pointer (some ⟨ap, 0, none⟩), .int .i64 (y : Int)] _ (by kernel_rfl) (by rfl) (by kernel_rfl) (by kernel_rfl) (hGN _ hH) ?_
                      rintro e X5 ⟨rfl, rfl⟩
                      refine ⟨_, rfl, hH, ?_⟩
                      (try simp only [List.getElem_toArray, List.getElem_cons_zero, List.getElem_cons_succ, Act.put, List.setIfInBounds_toArray, List.set_cons_zero, List.set_cons_succ])
                      refine wpAnyH_take (i := 15) (v := .bool false) rfl (by kernel_rfl) (by kernel_rfl) (by kernel_rfl) (fun _ _ _ h => h) (yieldsIf_neqI (p := xg) (q := xg) (by simp) (by rfl) _ _ rfl rfl rfl) hH ?_
                      (try simp only [List.getElem_toArray, List.getElem_cons_zero, List.getElem_cons_succ, Act.put, List.setIfInBounds_toArray, List.set_cons_zero, List.set_cons_succ])
                      refine wpAnyH_take (i := 16) (v := .bool false) rfl (by kernel_rfl) (by kernel_rfl) (by kernel_rfl) (fun _ _ _ h => h) (.inl ⟨by rfl, fun _ _ => by kernel_rfl⟩) hH ?_
                      (try simp only [List.getElem_toArray, List.getElem_cons_zero, List.getElem_cons_succ, Act.put, List.setIfInBounds_toArray, List.set_cons_zero, List.set_cons_succ])
                      refine wpAnyH_done (by kernel_rfl) ?_ _
                      have HH := Lib.hid hH
                      clear hH hST hGN
                      go_upto_region 38 with fail
                      go_loopw [22, 173] (fun _ s173 wx => ∃ p : Nat, p ≤ q' ∧ s173 = .int .i64 p ∧ Hid (Below W7.heap.size W7 wx)) (fun _ s173 _ => q' - (intOf s173).toNat)
                      case atStart => exact ⟨0, Nat.zero_le _, rfl, HH⟩
                      case round =>
                        obtain ⟨p, hp, rfl, HBZ⟩ := hrel
                        by_cases hpq : p < q'
                        · obtain ⟨b3, o3, x3, e3, hb3, hx3, hr3⟩ := (RfsAt.at_ (Rs.below HQ.out ((HBX1.out.trans hb.out).trans (HBZ.out.mono (HBX1.out.trans hb.out).size)))) hpq
                          subst e3
                          obtain ⟨wz, hwz⟩ : ∃ q, wr = q := ⟨_, rfl⟩
                          rw [hwz] at hr3 HBZ ⊢
                          have LR := ref_loadR hr3
                          have SG := ref_put wz x3
                          have bG := put_belN wz (.cells #[.int .i64 0, .int .i64 0] 32) (refC x3).toList
                          have kG := ref_blk wz x3
                          obtain ⟨w8, hw8⟩ : ∃ q, (wz.alloc (.cells #[.int .i64 0, .int .i64 0] 32)).setCells wz.heap.size 0 (refC x3).toList = q := ⟨_, rfl⟩
                          rw [hw8] at SG bG kG
                          have LX := ref_load kG
                          have HBZ8 := Lib.hid (HBZ.out.trans (bG.mono HBZ.out.size))
                          have LY : (Instr.loadAt 32 (.pointer (some ⟨wy.heap.size, 1, none⟩))).run Try.prog w8 = .ok (refV ⟨xi, (y : Int), xg⟩) w8 := row_load_mid (HKG7.out.below HBZ8.out HKG7.out.lt) 1 (refC ⟨xi, (y : Int), xg⟩) rfl Try.underlying32 rfl refTN
                          obtain ⟨k3, e4, e5⟩ := HI.out.old x3 hx3
                          have hq3 : ¬ (y : Int) = x3.slot ∨ ((y : Int) = x3.slot ∧ ¬ xg = x3.gen) := by
                            by_cases h : (y : Int) = x3.slot
                            · obtain rfl : k3 = y := by omega
                              exact .inr ⟨h, by have := HY.out.2.2.2; omega⟩
                            · exact .inl h
                          obtain ⟨x3i, x3s, x3g⟩ := x3
                          (try dsimp only at hq3 e4 e5)
                          have HPQ := Lib.hid hpq
                          unfold refV at LR SG LX LY
                          (try dsimp only at LR SG LX LY)
                          clear hwz hr3 hb3 hx3 hw8 bG kG e4 e5 HBZ
                          rcases hq3 with hq3 | ⟨hq3, hq4⟩
                          all_goals
                            first | subst hq3 | skip
                            go_wp2_with (first
                              | refine wpList_loadE LR _ rfl rfl rfl ?_
                              | refine wpList_loadE LX _ rfl rfl rfl ?_
                              | refine wpList_loadE LY _ rfl rfl rfl ?_
                              | refine wpList_storeE SG _ _ rfl rfl rfl rfl ?_)
                            go_roundw
                            case rel => first | exact ⟨p + 1, by have := HPQ.out; omega, by go_num, HBZ8⟩ | ((repeat apply Exists.intro); refine ⟨?_, rfl⟩; exact ⟨p + 1, by have := HPQ.out; omega, by go_num, HBZ8⟩)
                            case measure => have := HPQ.out; simp [intOf]; omega
                        · obtain rfl : p = q' := by omega
                          have hUF : wr.ownsRow V1.heap.size 3 1 (.slice (some ⟨g2, 0, none⟩) (i + 1) c7) (i + 1) ((((sortN E).take (i + 1)).map (·.slot)).map (.int .i64)) := by
                            have h1 := ho.out
                            have e : (sortN E).take (i + 1) = (sortN E).take i ++ [⟨xi, (y : Int), xg⟩] := by
                              rw [List.take_add_one, HX1.out]; rfl
                            rw [e, List.map_append, List.map_append]
                            exact ownsRow_tch h1 (Tch.of_below (S := fun _ => False) HBZ.out) (fun _ _ q => q)
                          have HUF := Lib.hid hUF
                          have HBF := Lib.hid ((HBX1.out.trans hb.out).trans (HBZ.out.mono (HBX1.out.trans hb.out).size))
                          clear hUF
                          go_wp2_with fail
                          go_roundw
                          case rel => exact ⟨i + 1, some ⟨g2, 0, none⟩, c7, by have := HKT.out; omega, by go_num, rfl, HBF, HUF⟩
                          case measure => have := HKT.out; simp [intOf]; omega
                · obtain rfl : k = m := by omega
                  obtain ⟨wy, hwy⟩ : ∃ q, wr = q := ⟨_, rfl⟩
                  rw [hwy] at HBX ⊢
                  have hSF := HS1.out.below HBX.out
                  have HSF := Lib.hid hSF
                  have hC2 := ar_count2 hSF.t.a
                  rw [HI.out.c2, HMM.out] at hC2
                  have HC2 := Lib.hid hC2
                  have hLN := id_len hSF.t.m (Nat.le_trans HE40.out (by decide))
                  rw [HMM.out] at hLN
                  have HLN := Lib.hid hLN
                  have ew : wrap64 ((z : Int) - (k : Int)) = (z : Int) - (k : Int) := by unfold wrap64; omega
                  have hj80 : j ≤ 80 := by have h1 := HLT.out; have h2 := HN80.out; omega
                  clear hwy hSF hC2 hLN HN1 HU
                  go_wp2_with (first
                    | (go_at_call 18; (with_reducible refine HC2.out.mono ?_); rintro e X ⟨rfl, rfl⟩)
                    | (go_at_call 11; (with_reducible refine HLN.out.mono ?_); rintro e X2 ⟨rfl, hbx⟩; have HBX2 := Lib.hid hbx; have hSX := HSF.out.below hbx; have HSX := Lib.hid hSX; have hC0 := ar_count0 hSX.t.a; rw [HI.out.c0, HMM.out] at hC0; have HC0 := Lib.hid hC0; have hLN2 := id_len hSX.t.m (Nat.le_trans HE40.out (by decide)); rw [HMM.out] at hLN2; have HLN2 := Lib.hid hLN2; clear hbx hSX hC0 hLN2)
                    | (go_at_call 18; (with_reducible refine HC0.out.mono ?_); rintro e X ⟨rfl, rfl⟩)
                    | (go_at_call 11; (with_reducible refine HLN2.out.mono ?_); rintro e X3 ⟨rfl, hbx⟩; have HSY := Lib.hid (HSX.out.below hbx); clear hbx))
                  have HF : Hid (LoopS w X3 ap sb mp sh z bs A9' q' d9' (j + 1)) := by
                    exact ⟨_, _, _, _, _, _, _, _, _, _, HSY.out, HI.out, HV.out.1, HV.out.2.1, HV.out.2.2⟩
                  go_roundw
                  case rel => exact ⟨j + 1, A9', q', d9', by have := HLT.out; omega, by go_num, rfl, HF⟩
                  case measure => have := HLT.out; simp [intOf]; omega
          · obtain rfl : j = n := by omega
            have HF : Hid (Below w.heap.size w wr) := by obtain ⟨fb, c', st, gn, fr, ct, N, E, ver, stale, hS, _⟩ := HL.out; exact hS.t.b
            go_wp2_with fail
            go_ret
            exact ⟨rfl, HF.out⟩
      · have v1 : decide ((z : Int) > 40) = true := decide_eq_true (by omega)
        have v2 : decide (40 < z) = true := decide_eq_true (by omega)
        go_wp2_with fail
        go_ret
        exact ⟨rfl, HS.out.b⟩
    · have t1 : decide ((n : Int) > 80) = true := decide_eq_true (by omega)
      have t2 : decide (80 < n) = true := decide_eq_true (by omega)
      go_wp2_with fail
      all_goals
        go_ret
        exact ⟨rfl, HS.out.b⟩
  · have hs' : s < 1 ∨ 4096 < s := by omega
    have HSS := Lib.hid hs'
    have u1 : (decide (s < 1) || decide (s > 40)) = true := by simp; omega
    cases t1 : decide (s < 1)
    all_goals
      first
        | have t2 : decide (s > 40) = true := decide_eq_true (by have := of_decide_eq_false t1; have := HSS.out; omega)
        | skip
      clear hs hs'
      go_enter Try.func4, Try.ntmps4
      go_upto_region 3 with (go_at_call 5; (refine HB.out.mono ?_); rintro e w1 ⟨rfl, hb1⟩; have HB1 := Lib.hid hb1; clear hb1)
      have HN := Lib.hid (ar_newN s HSS.out w1)
      go_upto_region 4 with (go_at_call 12; (refine HN.out.mono ?_); rintro e w2 ⟨rfl, rfl⟩)
      have HM := Lib.hid (id_new 8 (by decide) (by decide) w1)
      go_wp2_with (go_at_call 6; (refine HM.out.mono ?_); rintro e w3 ⟨mp, sh, bs, rfl, _, hb3, _⟩; have HB3 := Lib.hid hb3; clear hb3)
      go_ret
      exact ⟨rfl, HB1.out.trans (HB3.out.mono HB1.out.size)⟩
end Go.Proofs.Ythcmajeamandfaa
