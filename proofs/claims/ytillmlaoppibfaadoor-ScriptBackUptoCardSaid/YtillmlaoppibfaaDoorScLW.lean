/- Scripts: the law, there and back. -/
import Derived.Test.YtillmlaoppibfaaDoorScLV
import Derived.Test.YtillmlaoppibfaaDoorScM
namespace Go.Proofs.YtillmlaoppibfaaDoor
open Go.RowKit Go.Sort
theorem prs_why : ∀ (f : Nat) (pk : Int) (cnt no : Nat) (s : List UInt8) (m : Nat) (y : Int), prsL f pk cnt no s = .inl (m, y) → y ≠ 0
  | 0, _, _, _, _, m, y, h => by
    unfold prsL at h
    injection h with h
    injection h with _ h
    omega
  | f + 1, pk, cnt, no, s, m, y, h => by
    rw [prsL] at h
    split at h
    · cases h
    · split at h
      · injection h with h; injection h with _ h; omega
      · split at h
        · injection h with h; injection h with _ h; omega
        · split at h
          · injection h with h; injection h with _ h; omega
          · split at h
            · injection h with h; injection h with _ h; omega
            · split at h
              · rename_i e he
                injection h with h
                rw [h] at he
                exact prs_why f _ _ _ _ m y he
              · cases h
theorem prsO_why {s : List UInt8} {m : Nat} {y : Int} (h : prsO s = .inl (m, y)) : y ≠ 0 := by
  unfold prsO at h
  split at h
  · injection h with h; injection h with _ h; omega
  · split at h
    · injection h with h; injection h with _ h; omega
    · split at h
      · injection h with h; injection h with _ h; omega
      · split at h
        · cases hp : prsL s.length (-1) 0 2 (Lib.cut s [10]).2.1 with
          | inl e =>
            rw [hp] at h
            injection h with h
            rw [h] at hp
            exact prs_why _ _ _ _ _ _ _ hp
          | inr g => rw [hp] at h; cases h
        · injection h with h; injection h with _ h; omega
theorem txt_len {c : SCfg} {l : List SAct} {t : List UInt8} (h : txtO c l = (t, 0)) : t.length ≤ 65536 := by
  unfold txtO at h
  split at h
  · simp at h
  · split at h
    · simp at h
    · split at h
      · simp at h
      · split at h
        · simp at h
        · rename_i hl
          injection h with h _
          rw [← h]
          omega
set_option maxHeartbeats 16000000 in
set_option maxRecDepth 100000 in
/-- A script is read from its text; a text that is read is its script's. -/
theorem script_back (c : SCfg) (A : Option Addr) (n cp : Nat) (l : List SAct) (s : List UInt8) (w : World) (he : Env w) (hl : AcsAt w w.heap.size A n l) (hn : n ≤ 1048576) (hcp : n ≤ cp) :
    Calls Tryd.prog 3 #[c.v, .slice A n cp, .string ⟨s.toArray⟩] w fun e w' => e = .returned (.bool true) ∧ Below w.heap.size w w' := by
  obtain ⟨R, hR⟩ : ∃ R : Ending → World → Prop, R = fun e w' => e = .returned (.bool true) ∧ Below w.heap.size w w' := ⟨_, rfl⟩
  rw [← hR]
  have HR := Lib.hid hR
  have HE := Lib.hid he
  obtain ⟨d, p, k, f, x⟩ := c
  have hb0 := bel_boxX w (.cells #[.int .i64 d, .int .i64 p, .int .i64 k, .int .i64 f, .int .i64 x] 23)
  obtain ⟨W1, hW1⟩ : ∃ W, w.alloc (.cells #[.int .i64 d, .int .i64 p, .int .i64 k, .int .i64 f, .int .i64 x] 23) = W := ⟨_, rfl⟩
  have hK1 : Blk W1 w.heap.size 23 #[.int .i64 d, .int .i64 p, .int .i64 k, .int .i64 f, .int .i64 x] := by rw [← hW1]; exact Blk.new _ _ _
  rw [hW1] at hb0
  have HLV := Lib.hid (lives34 W1 (he.on hb0))
  have HACS := Lib.hid hl
  have HLN := Lib.hid hl.len
  have HRG : Hid (∀ a ∈ l, a.Rng) := fun a ha => by
    obtain ⟨css, _, _, h3⟩ := hl
    obtain ⟨i, hi⟩ := List.mem_iff_getElem?.1 ha
    obtain ⟨_, _, _, _, _, _, _, q⟩ := h3 i a hi
    exact q
  have HK1 := Lib.hid hK1
  have HB0 := Lib.hid hb0
  have HW1 := Lib.hid hW1
  clear hR he hl hb0 hK1 hW1
  unfold SCfg.v
  simp only
  go_enter Tryd.func3, Tryd.ntmps3
  go_upto_region 1 with fail
  rw [HW1.out]
  clear HW1
  go_wp2_with (go_at_call 4; refine HLV.out.mono ?_)
  first | rintro e w2 rfl hb2 | rintro e w2 ⟨rfl, hb2⟩
  have HB2 := Lib.hid (HB0.out.trans (hb2.mono HB0.out.size))
  have HK2 := Lib.hid (HK1.out.below hb2 HK1.out.lt)
  clear hb2 HLV HK1 HB0
  by_cases hbig : 4096 < n
  · have d1 : decide ((4096 : Int) < (n : Int)) = true := decide_eq_true (by omega)
    have d2 : (4096 : Int) < (n : Int) := by omega
    go_wp2
    rw [HR.out]
    exact ⟨rfl, HB2.out⟩
  · have d1 : decide ((4096 : Int) < (n : Int)) = false := decide_eq_false (by omega)
    have d2 : ¬ (4096 : Int) < (n : Int) := by omega
    by_cases hlong : 131072 < s.length
    · have d3 : decide ((131072 : Int) < (s.length : Int)) = true := decide_eq_true (by omega)
      have d4 : (131072 : Int) < (s.length : Int) := by omega
      go_wp2
      rw [HR.out]
      exact ⟨rfl, HB2.out⟩
    · have d3 : decide ((131072 : Int) < (s.length : Int)) = false := decide_eq_false (by omega)
      have d4 : ¬ (131072 : Int) < (s.length : Int) := by omega
      have hs : s.length ≤ 140737488355328 := by omega
      have hb2 := HB2.out
      obtain ⟨tx, htx⟩ : ∃ q, txtO ⟨d, p, k, f, x⟩ l = q := ⟨_, rfl⟩
      obtain ⟨t, code⟩ := tx
      have HT : Hid (Calls Tryd.prog 5 #[.agg #[.int .i64 d, .int .i64 p, .int .i64 k, .int .i64 f, .int .i64 x], .slice A n cp] w2 fun e w' => e = .returned (.tuple #[.string ⟨t.toArray⟩, .int .i64 code]) ∧ Below w2.heap.size w2 w') := (sc_text ⟨d, p, k, f, x⟩ A n cp l w2 (HE.out.on hb2) ((HACS.out.below hb2).more hb2.size) hn hcp).mono fun e w' ⟨z1, z2⟩ => ⟨by rw [z2, htx]; rfl, z1⟩
      have LD2 : (Instr.loadAt 23 (.pointer (some ⟨w.heap.size, 0, none⟩))).run Tryd.prog w2 = .ok (.agg #[.int .i64 d, .int .i64 p, .int .i64 k, .int .i64 f, .int .i64 x]) w2 := loadF_cfg HK2.out rfl
      have HTXE := Lib.hid htx
      clear hb2 htx
      go_wp2_with (first | refine wpList_loadE LD2 _ rfl rfl rfl ?_ | (go_at_call 5; refine HT.out.mono ?_))
      first | rintro e w3 rfl hb3 | rintro e w3 ⟨rfl, hb3⟩
      have HB3 := Lib.hid (HB2.out.trans (hb3.mono HB2.out.size))
      have HK3 := Lib.hid (HK2.out.below hb3 HK2.out.lt)
      clear hb3 LD2 HT HK2 HB2
      by_cases hcode : code = 0
      · subst hcode
        obtain ⟨gs, hpr, hex⟩ := back_text HRG.out HTXE.out
        have HP4 := parse_ok hpr (by have := txt_len HTXE.out; omega) w3 (HE.out.on HB3.out)
        rw [hex, HLN.out] at HP4
        unfold SCfg.v at HP4
        simp only at HP4
        have HP4_ := Lib.hid HP4
        clear HP4
        have HP4 := HP4_
        clear HP4_
        clear hpr hex
        go_wp2_with (go_at_call 6; refine HP4.out.mono ?_)
        first | rintro e w4 A4 cp4 rfl hle4 hpa hb4 | rintro e w4 ⟨A4, cp4, rfl, hle4, hpa, hb4⟩
        have hb4' : Below w.heap.size w w4 := HB3.out.trans (hb4.mono HB3.out.size)
        obtain ⟨C4, hC4⟩ : ∃ q, w4.heap.size = q := ⟨_, rfl⟩
        obtain ⟨y4, hy4⟩ : ∃ W, w4.alloc (.cells #[.int .i64 d, .int .i64 p, .int .i64 k, .int .i64 f, .int .i64 x] 23) = W := ⟨_, rfl⟩
        have hx4 := bel_boxX w4 (.cells #[.int .i64 d, .int .i64 p, .int .i64 k, .int .i64 f, .int .i64 x] 23)
        have hk4 : Blk y4 C4 23 #[.int .i64 d, .int .i64 p, .int .i64 k, .int .i64 f, .int .i64 x] := by rw [← hy4, ← hC4]; exact Blk.new _ _ _
        rw [hy4] at hx4
        have hB4 : Below w.heap.size w y4 := hb4'.trans (hx4.mono hb4'.size)
        have hkn := (HK3.out.below hb4 HK3.out.lt).below hx4 (by have := HK3.out.lt; have := hb4.size; omega)
        obtain ⟨A7, cp7, e7, _, hac, _⟩ := hpa.acs
        rw [HLN.out] at e7 hac
        injection e7 with e7 _ e8
        subst e7
        have HSA : Hid (Calls Tryd.prog 7 #[.slice A4 n cp4, .slice A n cp] y4 fun e w' => e = .returned (.bool true) ∧ Below y4.heap.size y4 w') := (rf_acts A4 A n n cp4 cp l l y4 ((hac.below hx4).more hx4.size) ((HACS.out.below hB4).more hB4.size) (by omega) hn).mono fun e w' ⟨z1, z2⟩ => ⟨by rw [z1, decide_eq_true rfl], z2⟩
        have v0 : y4.cell? ⟨C4, 0, none⟩ = some (.int .i64 d) := hk4.cell 0
        have v1 : y4.cell? ⟨C4, 1, none⟩ = some (.int .i64 p) := hk4.cell 1
        have v2 : y4.cell? ⟨C4, 2, none⟩ = some (.int .i64 k) := hk4.cell 2
        have v3 : y4.cell? ⟨C4, 3, none⟩ = some (.int .i64 f) := hk4.cell 3
        have v4 : y4.cell? ⟨C4, 4, none⟩ = some (.int .i64 x) := hk4.cell 4
        have u0 : y4.cell? ⟨w.heap.size, 0, none⟩ = some (.int .i64 d) := hkn.cell 0
        have u1 : y4.cell? ⟨w.heap.size, 1, none⟩ = some (.int .i64 p) := hkn.cell 1
        have u2 : y4.cell? ⟨w.heap.size, 2, none⟩ = some (.int .i64 k) := hkn.cell 2
        have u3 : y4.cell? ⟨w.heap.size, 3, none⟩ = some (.int .i64 f) := hkn.cell 3
        have u4 : y4.cell? ⟨w.heap.size, 4, none⟩ = some (.int .i64 x) := hkn.cell 4
        have HY4 := Lib.hid hy4
        have HC4 := Lib.hid hC4
        have HB4 := Lib.hid hB4
        clear hb4 hb4' hx4 hk4 hkn hy4 hC4 hB4 hac hpa e8 HP4
        go_upto_region 8 with fail
        rw [HY4.out, HC4.out]
        clear HY4 HC4
        go_wp2_with fail
        refine HSA.out.mono ?_
        first | rintro e w5 rfl hb5 | rintro e w5 ⟨rfl, hb5⟩
        have HB5 := Lib.hid (HB4.out.trans (hb5.mono HB4.out.size))
        clear hb5 HSA v0 v1 v2 v3 v4 u0 u1 u2 u3 u4
        cases hps : prsO s with
        | inl e6 =>
          obtain ⟨no, why⟩ := e6
          have hwhy := prsO_why hps
          have HP6 := Lib.hid (parse_no hps hs w5 (HE.out.on HB5.out))
          have hw1 : (why == 0) = false := beq_eq_false_iff_ne.2 hwhy
          have hno0 : decide ((0 : Int) ≤ (no : Int)) = true := decide_eq_true (by omega)
          clear hps
          go_wp2_with (go_at_call 6; refine HP6.out.mono ?_)
          first | rintro e w6 rfl hb6 | rintro e w6 ⟨rfl, hb6⟩
          have hb6' : Below w.heap.size w w6 := HB5.out.trans (hb6.mono HB5.out.size)
          have HB7 : Hid (Below w.heap.size w (w6.alloc (.cells #[.int .i64 0, .int .i64 0, .int .i64 0, .int .i64 0, .int .i64 0] 23))) := hb6'.alloc hb6'.size _
          clear hb6 hb6' HP6
          go_wp2
          rw [HR.out]
          exact ⟨rfl, HB7.out⟩
        | inr r6 =>
          obtain ⟨d6, gs6⟩ := r6
          obtain ⟨htx6, hle6⟩ := text_back hps
          have HP6 := parse_ok hps hs w5 (HE.out.on HB5.out)
          obtain ⟨l6, hl6⟩ : ∃ q, expand gs6 = q := ⟨_, rfl⟩
          rw [hl6] at HP6 htx6 hle6
          obtain ⟨m6, hm6⟩ : ∃ q, l6.length = q := ⟨_, rfl⟩
          obtain ⟨q1, q2, q3, q4, q5⟩ := d6
          unfold SCfg.v at HP6
          simp only at HP6
          rw [hm6] at HP6
          have HP6_ := Lib.hid HP6
          clear HP6
          have HP6 := HP6_
          clear HP6_
          have HTX6 := Lib.hid htx6
          have HM6 := Lib.hid hm6
          clear hps htx6 hl6 hm6
          go_wp2_with (go_at_call 6; refine HP6.out.mono ?_)
          first | rintro e w6 A6 cp6 rfl hle hpa hb6 | rintro e w6 ⟨A6, cp6, rfl, hle, hpa, hb6⟩
          have hb6' : Below w.heap.size w w6 := HB5.out.trans (hb6.mono HB5.out.size)
          obtain ⟨C6, hC6⟩ : ∃ q, w6.heap.size = q := ⟨_, rfl⟩
          obtain ⟨y6, hy6⟩ : ∃ W, w6.alloc (.cells #[.int .i64 q1, .int .i64 q2, .int .i64 q3, .int .i64 q4, .int .i64 q5] 23) = W := ⟨_, rfl⟩
          have hx6 := bel_boxX w6 (.cells #[.int .i64 q1, .int .i64 q2, .int .i64 q3, .int .i64 q4, .int .i64 q5] 23)
          have hk6 : Blk y6 C6 23 #[.int .i64 q1, .int .i64 q2, .int .i64 q3, .int .i64 q4, .int .i64 q5] := by rw [← hy6, ← hC6]; exact Blk.new _ _ _
          rw [hy6] at hx6
          have hB6 : Below w.heap.size w y6 := hb6'.trans (hx6.mono hb6'.size)
          obtain ⟨A7, cp7, e7, _, hac, _⟩ := hpa.acs
          rw [HM6.out] at e7 hac
          injection e7 with e7 _ e8
          subst e7
          have hac7 : AcsAt y6 y6.heap.size A6 m6 l6 := (hac.below hx6).more hx6.size
          have HT6 : Hid (Calls Tryd.prog 5 #[.agg #[.int .i64 q1, .int .i64 q2, .int .i64 q3, .int .i64 q4, .int .i64 q5], .slice A6 m6 cp6] y6 fun e w' => e = .returned (.tuple #[.string ⟨s.toArray⟩, .int .i64 0]) ∧ Below y6.heap.size y6 w') := (sc_text ⟨q1, q2, q3, q4, q5⟩ A6 m6 cp6 l6 y6 (HE.out.on hB6) hac7 (by have := HM6.out; omega) hle).mono fun e w' ⟨z1, z2⟩ => ⟨by rw [z2, HTX6.out]; rfl, z1⟩
          have LD6 : (Instr.loadAt 23 (.pointer (some ⟨C6, 0, none⟩))).run Tryd.prog y6 = .ok (.agg #[.int .i64 q1, .int .i64 q2, .int .i64 q3, .int .i64 q4, .int .i64 q5]) y6 := loadF_cfg hk6 rfl
          have HY6 := Lib.hid hy6
          have HC6 := Lib.hid hC6
          have HB6 := Lib.hid hB6
          clear hb6 hb6' hx6 hk6 hy6 hC6 hB6 hac hac7 hpa e8 HP6
          clear LD6
          go_wp2_with fail
          rw [HY6.out]
          refine HT6.out.mono ?_
          first | rintro e w7 rfl hb7 | rintro e w7 ⟨rfl, hb7⟩
          have HB7 := Lib.hid (HB6.out.trans (hb7.mono HB6.out.size))
          clear hb7 HT6 HB6 HY6 HC6
          go_wp2
          rw [HR.out]
          exact ⟨rfl, HB7.out⟩
      · have hc1 : (code == 0) = false := beq_eq_false_iff_ne.2 hcode
        cases hps : prsO s with
        | inl e6 =>
          obtain ⟨no, why⟩ := e6
          have hwhy := prsO_why hps
          have HP6 := Lib.hid (parse_no hps hs w3 (HE.out.on HB3.out))
          have hw1 : (why == 0) = false := beq_eq_false_iff_ne.2 hwhy
          have hno0 : decide ((0 : Int) ≤ (no : Int)) = true := decide_eq_true (by omega)
          clear hps
          go_wp2_with (go_at_call 6; refine HP6.out.mono ?_)
          first | rintro e w6 rfl hb6 | rintro e w6 ⟨rfl, hb6⟩
          have hb6' : Below w.heap.size w w6 := HB3.out.trans (hb6.mono HB3.out.size)
          have HB7 : Hid (Below w.heap.size w (w6.alloc (.cells #[.int .i64 0, .int .i64 0, .int .i64 0, .int .i64 0, .int .i64 0] 23))) := hb6'.alloc hb6'.size _
          clear hb6 hb6' HP6
          go_wp2
          rw [HR.out]
          exact ⟨rfl, HB7.out⟩
        | inr r6 =>
          obtain ⟨d6, gs6⟩ := r6
          obtain ⟨htx6, hle6⟩ := text_back hps
          have HP6 := parse_ok hps hs w3 (HE.out.on HB3.out)
          obtain ⟨l6, hl6⟩ : ∃ q, expand gs6 = q := ⟨_, rfl⟩
          rw [hl6] at HP6 htx6 hle6
          obtain ⟨m6, hm6⟩ : ∃ q, l6.length = q := ⟨_, rfl⟩
          obtain ⟨q1, q2, q3, q4, q5⟩ := d6
          unfold SCfg.v at HP6
          simp only at HP6
          rw [hm6] at HP6
          have HP6_ := Lib.hid HP6
          clear HP6
          have HP6 := HP6_
          clear HP6_
          have HTX6 := Lib.hid htx6
          have HM6 := Lib.hid hm6
          clear hps htx6 hl6 hm6
          go_wp2_with (go_at_call 6; refine HP6.out.mono ?_)
          first | rintro e w6 A6 cp6 rfl hle hpa hb6 | rintro e w6 ⟨A6, cp6, rfl, hle, hpa, hb6⟩
          have hb6' : Below w.heap.size w w6 := HB3.out.trans (hb6.mono HB3.out.size)
          obtain ⟨C6, hC6⟩ : ∃ q, w6.heap.size = q := ⟨_, rfl⟩
          obtain ⟨y6, hy6⟩ : ∃ W, w6.alloc (.cells #[.int .i64 q1, .int .i64 q2, .int .i64 q3, .int .i64 q4, .int .i64 q5] 23) = W := ⟨_, rfl⟩
          have hx6 := bel_boxX w6 (.cells #[.int .i64 q1, .int .i64 q2, .int .i64 q3, .int .i64 q4, .int .i64 q5] 23)
          have hk6 : Blk y6 C6 23 #[.int .i64 q1, .int .i64 q2, .int .i64 q3, .int .i64 q4, .int .i64 q5] := by rw [← hy6, ← hC6]; exact Blk.new _ _ _
          rw [hy6] at hx6
          have hB6 : Below w.heap.size w y6 := hb6'.trans (hx6.mono hb6'.size)
          obtain ⟨A7, cp7, e7, _, hac, _⟩ := hpa.acs
          rw [HM6.out] at e7 hac
          injection e7 with e7 _ e8
          subst e7
          have hac7 : AcsAt y6 y6.heap.size A6 m6 l6 := (hac.below hx6).more hx6.size
          have HT6 : Hid (Calls Tryd.prog 5 #[.agg #[.int .i64 q1, .int .i64 q2, .int .i64 q3, .int .i64 q4, .int .i64 q5], .slice A6 m6 cp6] y6 fun e w' => e = .returned (.tuple #[.string ⟨s.toArray⟩, .int .i64 0]) ∧ Below y6.heap.size y6 w') := (sc_text ⟨q1, q2, q3, q4, q5⟩ A6 m6 cp6 l6 y6 (HE.out.on hB6) hac7 (by have := HM6.out; omega) hle).mono fun e w' ⟨z1, z2⟩ => ⟨by rw [z2, HTX6.out]; rfl, z1⟩
          have LD6 : (Instr.loadAt 23 (.pointer (some ⟨C6, 0, none⟩))).run Tryd.prog y6 = .ok (.agg #[.int .i64 q1, .int .i64 q2, .int .i64 q3, .int .i64 q4, .int .i64 q5]) y6 := loadF_cfg hk6 rfl
          have HY6 := Lib.hid hy6
          have HC6 := Lib.hid hC6
          have HB6 := Lib.hid hB6
          clear hb6 hb6' hx6 hk6 hy6 hC6 hB6 hac hac7 hpa e8 HP6
          clear LD6
          go_wp2_with fail
          rw [HY6.out]
          refine HT6.out.mono ?_
          first | rintro e w7 rfl hb7 | rintro e w7 ⟨rfl, hb7⟩
          have HB7 := Lib.hid (HB6.out.trans (hb7.mono HB6.out.size))
          clear hb7 HT6 HB6 HY6 HC6
          go_wp2
          rw [HR.out]
          exact ⟨rfl, HB7.out⟩
end Go.Proofs.YtillmlaoppibfaaDoor
