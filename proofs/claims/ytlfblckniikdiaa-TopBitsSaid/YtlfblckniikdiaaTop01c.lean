/- Walk of the law TopBits. -/
import Derived.Test.YtlfblckniikdiaaTop01
namespace Go.Proofs.Ytlfblckniikdiaa
open Go.RowKit
theorem fields_ones : ∀ (k v : Nat), fieldsF v (List.replicate k 1) = (List.range k).map fun i => ((v / 2 ^ i % 2 : Nat) : Int) := by
  intro k
  induction k with
  | zero => intro v; rfl
  | succ k ih =>
    intro v
    rw [List.replicate_succ, fieldsF, ih, List.range_succ_eq_map, List.map_cons, List.map_map]
    congr 1
    · simp
    · apply List.map_congr_left
      intro i _
      simp only [Function.comp, Int.reduceToNat, Nat.pow_one, Nat.succ_eq_add_one]
      rw [Nat.div_div_eq_div_mul, Nat.pow_succ, Nat.mul_comm 2]
theorem tot_ones : ∀ k, totF (List.replicate k 1) = k := by
  intro k
  induction k with
  | zero => rfl
  | succ k ih => rw [List.replicate_succ, totF, ih]; simp; omega
theorem bit_of_word (v i : Nat) : v / 2 ^ i % 2 = if v.testBit i then 1 else 0 := by
  rw [Nat.testBit_eq_decide_div_mod_eq]
  rcases Nat.mod_two_eq_zero_or_one (v / 2 ^ i) with h | h <;> rw [h] <;> rfl
theorem list_one (v : Nat) : (listE [(v : Int)]).length = popN v := by
  have h := listE_cut [(v : Int)] 1 rfl
  rw [← h]
  have h2 := lst_word [(v : Int)] 0
  rw [show (0 + 1) * 64 = 1 * 64 by rfl] at h2
  rw [h2, List.length_append, pop_bits]
  show (lst _ 0).length + popN (wg [(v : Int)] 0) = popN v
  have : wg [(v : Int)] 0 = v := by unfold wg ig; simp
  rw [this]
  simp [lst]
theorem has_one (v i : Nat) (hi : i < 64) : hasE [(v : Int)] i = v.testBit i := by
  unfold hasE hasB
  rw [Int.toNat_natCast, show i / 64 = 0 by omega, show i % 64 = i by omega]
  have : wg [(v : Int)] 0 = v := by unfold wg ig; simp
  rw [this]
  simp; omega
def cntB (v j : Nat) : Nat := ((List.range j).filter v.testBit).length
theorem cnt_succ (v j : Nat) : cntB v (j + 1) = cntB v j + (if v.testBit j then 1 else 0) := by
  unfold cntB
  rw [List.range_succ, List.filter_append, List.length_append]
  cases h : v.testBit j <;> simp [List.filter, h]
theorem cnt_le (v j : Nat) : cntB v j ≤ j := by unfold cntB; exact Nat.le_trans (List.length_filter_le _ _) (by simp)
theorem canon_none : Canon (fun _ => false) [] := ⟨by simp, by simp, fun n _ => hasB_out (by simp), Or.inl rfl⟩
set_option maxRecDepth 100000 in
set_option maxHeartbeats 4000000 in
theorem topBits_walk (v : Nat) (hv : v < 18446744073709551616) (w : World) :
    Calls Try.prog 6 #[.int .u64 v] w fun e w' => e = .returned (.bool true) ∧ Below w.heap.size w w' := by
  have hmk := fun (kl kc : IntKind) (w : World) => run_make_row' (P := Try.prog) 24 3 (.int .i64 0) 8 Try.underlying24 info_int rfl kl kc 64 (by decide) (by decide) (w := w)
  rw [show ((64 : Nat) : Int) = 64 from rfl] at hmk
  have HMK := Lib.hid hmk
  clear hmk
  obtain ⟨os, hos⟩ : ∃ os : List Int, List.replicate 64 1 = os := ⟨_, rfl⟩
  have hw64 : wideF os 64 = true := by rw [← hos]; decide
  have hol : os.length = 64 := by rw [← hos]; simp
  obtain ⟨vs, hvs⟩ : ∃ vs, fieldsF v os = vs := ⟨_, rfl⟩
  have hvl : vs.length = 64 := by rw [← hvs, fields_len, hol]
  have HV : Hid (∀ i, i < 64 → ig vs i = ((v / 2 ^ i % 2 : Nat) : Int)) := fun i hi => by
    rw [← hvs, ← hos, fields_ones, ig, List.getD_eq_getElem?_getD, List.getElem?_map, List.getElem?_range hi]; rfl
  have hje : joinE vs os = ((v : Int), 0) := by
    rw [← hvs, joinE_fields hw64, ← hos, tot_ones, Nat.mod_eq_of_lt (show v < 2 ^ 64 from hv)]
  have hvw : ∀ z ∈ vs, Word z := by rw [← hvs]; exact word_fields os v hv
  have HO : Hid (∀ cs : List Int, cs.length = 64 → (∀ i, i < 64 → ig cs i = 1) → cs = os) := fun cs h1 h2 => by
    rw [← hos]
    refine ext_getD (by simp [h1]) fun k hk => ?_
    rw [h2 k (by omega), ig, List.getD_eq_getElem?_getD, List.getElem?_replicate, if_pos (by omega)]; rfl
  have HW := Lib.hid hw64
  have HF := Lib.hid hvs
  have HJ := Lib.hid hje
  have HVL := Lib.hid hvl
  clear hos hw64 hol hvs hvl hje
  go_enter Try.func6, Try.ntmps6
  go_wp2_with fail
  refine (begins1_any _).mono ?_
  rintro e w1 ⟨rfl, hb1⟩
  have hmk := HMK.out .i64 .i64 w1
  go_wp2_with fail
  have I0 := Lib.hid (IB.made w1 3 64 .i64)
  have B0 : Below w.heap.size w (w1.alloc (.cells (madeCells #[.int .i64 0] 64) 3)) := hb1.alloc hb1.size _
  have hsz := hb1.size
  obtain ⟨W, hW⟩ : ∃ W, w1.alloc (.cells (madeCells #[.int .i64 0] 64) 3) = W := ⟨_, rfl⟩
  rw [hW] at I0 B0 ⊢
  clear hW hb1 hmk
  go_loopw [16] (fun i wr => ∃ (j : Nat) (cs : List Int), j ≤ 64 ∧ i = .int .i64 j ∧ Hid (IB wr w1.heap.size 3 .i64 cs) ∧ Hid (cs.length = 64 ∧ ∀ i, i < j → ig cs i = 1) ∧ Below w.heap.size w wr) (fun i _ => 64 - (intOf i).toNat)
  case atStart => exact ⟨0, _, Nat.zero_le _, rfl, I0, ⟨List.length_replicate, fun i hi => by omega⟩, B0⟩
  case round =>
    clear I0 B0
    obtain ⟨j, cs, hj, rfl, I, U, hB⟩ := hrel
    by_cases hlt : j < 64
    · have hfz := I.out.frozen j
      have u1 := U.out.1
      have hcl := I.out.cell (k := j) (by omega)
      have I2 := Lib.hid (I.out.set_ (k := j) (by omega) 1)
      have U2 : Hid ((cs.set j 1).length = 64 ∧ ∀ i, i < j + 1 → ig (cs.set j 1) i = 1) := ⟨by rw [List.length_set]; exact u1, fun i hi => by
        rw [ig_set (by omega)]
        split
        · rfl
        · exact U.out.2 i (by omega)⟩
      have B2 := hB.setCell (p := ⟨w1.heap.size, j, none⟩) hsz (.int .i64 1)
      clear u1
      go_wp2
      go_roundw
      case rel => exact ⟨j + 1, _, by omega, by go_num, I2, U2, B2⟩
      case measure => simp [intOf]; omega
    · obtain rfl : j = 64 := by omega
      obtain rfl := HO.out cs U.out.1 U.out.2
      have hrd := I.out.rd
      rw [U.out.1] at hrd
      have HR := Lib.hid hrd
      clear hrd
      go_wp2_with fail
      refine (pack_fields v hv _ 64 64 cs _ HR.out (by decide)).mono ?_
      intro e w2 hret
      rw [HF.out] at hret
      obtain ⟨⟨A1, c1, rfl, hl⟩, hb2⟩ := hret.ok_ (n := 64) HW.out HVL.out
      have B2 := hB.trans (hb2.mono hB.size)
      have HL := Lib.hid hl
      have HR2 := Lib.hid ((HR.out.below hb2).more hb2.size)
      clear hret hb2 hl hB I U HR
      go_wp2_with fail
      go_loopw [7, 38] (fun x i wr => ∃ j n : Nat, j ≤ 64 ∧ n ≤ 64 ∧ i = .int .i64 j ∧ x = .int .i64 n ∧ Hid (cntB v j = n) ∧ Hid (Below w2.heap.size w2 wr)) (fun _ i _ => 64 - (intOf i).toNat)
      case atStart => exact ⟨0, 0, Nat.zero_le _, by decide, rfl, rfl, rfl, Below.refl _ _⟩
      case round =>
        obtain ⟨j2, n, hj2, hn, rfl, rfl, hcnt, hB⟩ := hrel
        by_cases hlt2 : j2 < 64
        · obtain ⟨b, o, rfl, hbl, hc0⟩ := HL.out.atI (k := j2) hlt2
          have hc := (hB.out.cell (p := ⟨b, o + j2, none⟩) hbl).trans hc0
          rw [HV.out j2 hlt2, bit_of_word] at hc
          have hcs := cnt_succ v j2
          have hcl := cnt_le v (j2 + 1)
          rw [hcnt.out] at hcs
          have hhas := fun (wx : World) => bit_has (some ⟨wx.heap.size, 0, none⟩) 1 1 [(v : Int)] _ j2 (by omega) (wx.alloc (.cells #[.int .u64 v] 22)) (rd_lits wx 22 .u64 [(v : Int)] 1 rfl) (by simp; exact word_of_nat hv) (Nat.le_refl _) (fun h => by cases h)
          rw [has_one v j2 hlt2] at hhas
          have HH := Lib.hid hhas
          have B3 := Lib.hid (hB.out.alloc hB.out.size (.cells #[.int .u64 v] 22))
          clear hhas hc0
          cases htb : v.testBit j2 with
          | true =>
            rw [htb] at hc HH hcs
            simp only [if_true] at hc hcs
            have HC := Lib.hid hcs
            have hn2 : n + 1 ≤ 64 := by omega
            clear hcs htb hcl
            go_wp2_with fail
            refine (HH.out _).mono ?_
            rintro e w' ⟨rfl, rfl⟩
            go_wp2_with fail
            go_roundw
            case rel => exact ⟨j2 + 1, n + 1, by omega, hn2, by go_num, by go_num, HC, B3⟩
            case measure => simp [intOf]; omega
          | false =>
            rw [htb] at hc HH hcs
            simp only [Bool.false_eq_true, if_false, Nat.add_zero] at hc hcs
            have HC := Lib.hid hcs
            clear hcs htb hcl
            go_wp2_with fail
            refine (HH.out _).mono ?_
            rintro e w' ⟨rfl, rfl⟩
            go_wp2_with fail
            go_roundw
            case rel => exact ⟨j2 + 1, n, by omega, hn, by go_num, by go_num, HC, B3⟩
            case measure => simp [intOf]; omega
        · obtain rfl : j2 = 64 := by omega
          have B3 := B2.trans (hB.out.mono B2.size)
          have hj := pack_join A1 64 c1 vs hvw _ 64 64 cs wr ((HL.out.below hB.out).more hB.out.size) ((HR2.out.below hB.out).more hB.out.size) (by decide) (by decide)
          rw [HJ.out] at hj
          have HJJ := Lib.hid hj
          have HN : Hid (popN v = n) := hcnt.out
          clear hj B2
          go_wp2_with fail
          refine HJJ.out.mono ?_
          rintro e w4 ⟨rfl, q4, rfl⟩
          have B4 := below_drewN B3 q4
          have B5 := B4.alloc B4.size (.cells #[.int .u64 v] 22)
          have hct := bit_count (some ⟨(wr.drewN q4).heap.size, 0, none⟩) 1 1 _ [(v : Int)] ((wr.drewN q4).alloc (.cells #[.int .u64 v] 22)) (rd_lits (wr.drewN q4) 22 .u64 [(v : Int)] 1 rfl) (by simp; exact word_of_nat hv) (Nat.le_refl _) (fun h => by cases h)
          rw [list_one, HN.out] at hct
          have HCT := Lib.hid hct
          clear hct
          go_wp2_with fail
          refine HCT.out.mono ?_
          rintro e w' ⟨rfl, rfl⟩
          obtain ⟨w5, hw5⟩ : ∃ w5, (wr.drewN q4).alloc (.cells #[.int .u64 v] 22) = w5 := ⟨_, rfl⟩
          rw [hw5] at B5 ⊢
          have hwv : ∀ z ∈ [(v : Int)], Word z := by simp; exact word_of_nat hv
          clear HCT B4 B3 hw5
          go_wp2_with fail
          have r1 := rd_lits w5 22 .u64 [(v : Int)] 1 rfl
          obtain ⟨w6, hw6⟩ : ∃ w6, w5.alloc (.cells #[.int .u64 v] 22) = w6 := ⟨_, rfl⟩
          have hs6 : w6.heap.size = w5.heap.size + 1 := by rw [← hw6]; simp
          have b6 : Below w5.heap.size w5 w6 := by rw [← hw6]; exact (Below.refl _ _).alloc (Nat.le_refl _) _
          have r1' : Rd w6 w6.heap.size (some ⟨w5.heap.size, 0, none⟩) 1 ([(v : Int)].map (.int .u64)) := by rw [← hw6]; exact r1
          rw [hw6, ← hs6]
          have r2 := rd_lits w6 22 .u64 [(v : Int)] 1 rfl
          have r3 : Rd (w6.alloc (.cells #[.int .u64 v] 22)) (w6.alloc (.cells #[.int .u64 v] 22)).heap.size (some ⟨w5.heap.size, 0, none⟩) 1 ([(v : Int)].map (.int .u64)) := by
            have hb : Below w6.heap.size w6 (w6.alloc (.cells #[.int .u64 v] 22)) := (Below.refl _ _).alloc (Nat.le_refl _) _
            exact (r1'.below hb).more hb.size
          refine (bit_less (some ⟨w5.heap.size, 0, none⟩) 1 1 [(v : Int)] (some ⟨w6.heap.size, 0, none⟩) 1 1 [(v : Int)] _ r3 r2 hwv hwv (Nat.le_refl _) (Nat.le_refl _) (fun h => by cases h) (fun h => by cases h)).mono ?_
          rintro e w7 ⟨ws, A7, c7, rfl, _, _, hcan, _, hb7⟩
          have hnil : ws = [] := canon_one (canon_congr hcan (q := fun _ => false) fun n _ => by simp) canon_none
          subst hnil
          have B6 := B5.trans (b6.mono B5.size)
          have B7 := B6.trans ((((Below.refl _ _).alloc (Nat.le_refl _) _).trans (hb7.mono (by simp))).mono B6.size)
          clear hcan hb7 r1 r2 r3 r1' hw6 hs6 b6
          go_wp2_with fail
          go_ret
          exact ⟨rfl, B7⟩
theorem topBits_any (v : Int) (hv : Word v) (w : World) :
    Calls Try.prog 6 #[.int .u64 v] w fun e w' => e = .returned (.bool true) ∧ Below w.heap.size w w' := by
  obtain ⟨k, rfl, hk⟩ := word_nat hv
  exact topBits_walk k hk w
end Go.Proofs.Ytlfblckniikdiaa
