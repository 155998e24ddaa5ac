/- Walks of the laws of little. -/
import Derived.Test.YtknnalaemndnaaaLitT
namespace Go.Proofs.Ytknnalaemndnaaa
open Go.RowKit
theorem word_of1 : wordOf [1, 97, 128, 0] = ([97], [128, 0], 0) := by decide +kernel
set_option maxRecDepth 100000 in
set_option maxHeartbeats 2000000 in
theorem lives04 (w : World) : Calls Try.prog 26 #[] w fun e w' => e = .returned (.bool true) ∧ Below w.heap.size w w' := by
  have k1 : (ByteArray.mk #[172, 2, 1, 97, 128, 0]) = strOfNums [172, 2, 1, 97, 128, 0] := by decide +kernel
  have k2 : (ByteArray.mk #[97]) = strOfNums [97] := by decide +kernel
  have k3 : (ByteArray.mk #[]) = strOfNums [] := by decide +kernel
  have s1 : (strOfNums (numL 300)).toList = [172, 2] := by rw [ByteArray.toList_eq]; decide +kernel
  have s2 : (strOfNums (textL [97])).toList = [1, 97] := by rw [ByteArray.toList_eq]; decide +kernel
  have s3 : (strOfNums [97]).toList = [97] := by rw [ByteArray.toList_eq]; decide +kernel
  have s4 : (strOfNums []).toList = [] := by rw [ByteArray.toList_eq]; decide +kernel
  have s5 : (sumL [] == 2166136261) = true := by decide +kernel
  go_enter Try.func26, Try.ntmps26
  go_wp2_with fail
  refine (lit_new [172, 2, 1, 97, 128, 0] _).mono ?_
  rintro e w1 ⟨rfl, h1⟩
  have R1 := RdrAt.new w [172, 2, 1, 97, 128, 0]
  have B1 : Below w.heap.size w w1 := by rw [← h1]; exact (Below.refl _ _).alloc (Nat.le_refl _) _
  rw [h1] at R1
  clear h1
  go_wp2_with fail
  refine (rdr_num w.heap.size _ (bytes_of_all (by decide)) (by decide) _ R1 300 2 0 (by show _ = _; decide +kernel)).mono ?_
  rintro e w2 ⟨rfl, R2, G2⟩
  have B2 := B1.trans (below_of_only G2 B1.size (Nat.le_refl _))
  clear R1 G2 B1
  go_wp2_with fail
  refine (rdr_text w.heap.size [1, 97, 128, 0] (bytes_of_all (by decide)) (by decide) _ R2).mono ?_
  rw [word_of1]
  rintro e w3 ⟨rfl, R3, G3⟩
  have B3 := B2.trans (below_of_only G3 B2.size (Nat.le_refl _))
  clear R2 G3 B2
  go_wp2_with fail
  refine (rdr_left w.heap.size [128, 0] 0 _ R3).mono ?_
  rintro e w' ⟨rfl, rfl⟩
  go_wp2_with fail
  refine (rdr_num w.heap.size [128, 0] (bytes_of_all (by decide)) (by decide) _ R3 0 0 7 (by show _ = _; decide +kernel)).mono ?_
  rintro e w4 ⟨rfl, R4, G4⟩
  have B4 := B3.trans (below_of_only G4 B3.size (Nat.le_refl _))
  clear R3 G4 B3
  have R := Lib.hid R4
  clear R4
  go_wp2_with (first
    | (go_at_call 34; refine (lit_num 300 (by decide) _).mono ?_; rintro e w5 ⟨rfl, hb5⟩)
    | (go_at_call 36; refine (lit_text [97] (by decide) _).mono ?_; rintro e w6 ⟨rfl, hb6⟩)
    | (go_at_call 38; refine (lit_sum [] Bytes.nil (by decide) _).mono ?_; rintro e w7 ⟨rfl, hb7⟩)
    | (go_at_call 32; (with_reducible refine (rdr_why_nil _).mono ?_); rintro e w' ⟨rfl, rfl⟩)
    | (go_at_call 33; (with_reducible refine (rdr_left_nil _).mono ?_); rintro e w' ⟨rfl, rfl⟩)
    | (go_at_call 29; (with_reducible refine (rdr_num_nil _).mono ?_); rintro e w' ⟨rfl, rfl⟩)
    | (go_at_call 31; (with_reducible refine (rdr_text_nil _).mono ?_); rintro e w' ⟨rfl, rfl⟩)
    | (go_at_call 32; (with_reducible refine (rdr_why w.heap.size [128, 0] 7 _ ((R.out.below hb5 R.out.lt).below hb6 (Nat.lt_of_lt_of_le R.out.lt hb5.size))).mono ?_); rintro e w' ⟨rfl, rfl⟩)
    | (go_at_call 33; (with_reducible refine (rdr_left w.heap.size [128, 0] 7 _ ((R.out.below hb5 R.out.lt).below hb6 (Nat.lt_of_lt_of_le R.out.lt hb5.size))).mono ?_); rintro e w' ⟨rfl, rfl⟩))
  go_ret
  exact ⟨rfl, B4.trans ((hb5.mono B4.size).trans ((hb6.mono (Nat.le_trans B4.size hb5.size)).trans (hb7.mono (Nat.le_trans (Nat.le_trans B4.size hb5.size) hb6.size))))⟩
theorem len_drop_le (l : List Int) (k m : Nat) (h : l.length ≤ m) : (l.drop k).length ≤ m := by simp; omega
theorem word_bd (l : List Int) (hl : Bytes l) : Bytes (wordOf l).2.1 ∧ (wordOf l).2.1.length ≤ l.length ∧ Bytes (wordOf l).1 ∧ (wordOf l).1.length ≤ l.length := by
  unfold wordOf
  simp only
  split
  · exact ⟨hl, Nat.le_refl _, Bytes.nil, Nat.zero_le _⟩
  · split
    · exact ⟨hl, Nat.le_refl _, Bytes.nil, Nat.zero_le _⟩
    · split
      · exact ⟨hl, Nat.le_refl _, Bytes.nil, Nat.zero_le _⟩
      · exact ⟨(hl.drop _).drop _, by simp only [List.length_drop]; omega, (hl.drop _).take _, by simp only [List.length_take, List.length_drop]; omega⟩
set_option maxRecDepth 100000 in
set_option maxHeartbeats 4000000 in
theorem littleTells_walk (n : Nat) (hn : n < 18446744073709551616) (s bs : List Int) (hs : Bytes s) (hbs : Bytes bs) (A : Option Addr) (m c : Nat) (zs : List Int) (w : World)
    (hr : Rd w w.heap.size A m (zs.map (.int .u8))) (hz : ∀ z ∈ zs, 0 ≤ z ∧ z ≤ 255) (hs1 : s.length ≤ 5000) (hb1 : bs.length ≤ 5000) (hm : m ≤ 60) :
    Calls Try.prog 6 #[.int .u64 n, .string (strOfNums s), .string (strOfNums bs), .slice A m c] w fun e w' => e = .returned (.bool true) ∧ Below w.heap.size w w' := by
  have hss := strOfNums_size
  go_enter Try.func6, Try.ntmps6
  go_wp2_with fail
  refine (lit_new bs _).mono ?_
  rintro e w1 ⟨rfl, rfl⟩
  go_wp2_with fail
  go_loopw [39] (fun i wr => ∃ (k : Nat) (l : List Int) (why : Nat), k ≤ m ∧ i = .int .i64 k ∧ Bytes l ∧ l.length ≤ 5000 ∧ Hid (Blk wr w.heap.size 106 #[.string (strOfNums l), .int .i64 why]) ∧ Hid (Blk wr (w.heap.size + 1) 39 #[.string (strOfNums l), .int .i64 why]) ∧ Below w.heap.size w wr) (fun i _ => m - (intOf i).toNat)
  case atStart => exact ⟨0, bs, 0, Nat.zero_le _, rfl, hbs, hb1, heap_alloc2_old w _ _, heap_alloc2_new w _ _, ((Below.refl _ _).alloc (Nat.le_refl _) _).alloc (by simp) _⟩
  case round =>
    obtain ⟨k, l, why, hk, rfl, hl, hll, hR, hX, hb⟩ := hrel
    by_cases hlt : k < m
    · have hg0 := hR.out.lt
      have hg1 := hX.out.lt
      obtain ⟨b, o, rfl, hbl, hc0⟩ := hr.atI hlt
      have hc := (hb.cell (p := ⟨b, o + k, none⟩) hbl).trans hc0
      clear hc0
      have hx0 := hX.out.cell 0
      have hx1 := hX.out.cell 1
      obtain ⟨z, hzz⟩ : ∃ z, ig zs k = z := ⟨_, rfl⟩
      have hzr : 0 ≤ z ∧ z ≤ 255 := by
        have hkl : k < zs.length := by rw [hr.lenI]; exact hlt
        rw [← hzz, ig, List.getD_eq_getElem?_getD, List.getElem?_eq_getElem hkl]
        exact hz _ (List.getElem_mem hkl)
      rw [hzz] at hc
      obtain ⟨hz0, hz255⟩ := hzr
      have HR := Lib.hid hr
      clear hr hzz hz
      by_cases h2 : z % 2 = 0
      · have hk2 : (z % 2 == 0) = true := by simp [h2]
        clear h2
        by_cases hw0 : why = 0
        · subst hw0
          obtain ⟨nn, sz, wy, hN⟩ : ∃ nn sz wy, numOf l = (nn, sz, wy) := ⟨_, _, _, rfl⟩
          have HN := Lib.hid hN
          clear hN
          go_wp2_with fail
          refine (ref_next l hl (by omega) _).mono ?_
          rw [HN.out]
          rintro e w1 ⟨rfl, hb1⟩
          have R1 := Lib.hid (Blk.below hR.out hb1 hg0)
          have X1 := Lib.hid (Blk.below hX.out hb1 hg1)
          have x0 := X1.out.cell 0
          have x1 := X1.out.cell 1
          have y0 := X1.out.frozen 0
          have y1 := X1.out.frozen 1
          have z0 : w.heap.size < w1.heap.size := Nat.lt_of_lt_of_le hg0 hb1.size
          have z1 : w.heap.size + 1 < w1.heap.size := Nat.lt_of_lt_of_le hg1 hb1.size
          go_wp2_with fail
          refine (rdr_num w.heap.size l hl (by omega) _ ?_ nn sz wy HN).mono ?_
          · exact ((Blk.far (Blk.far R1.out (by simp) _) (by simp) _).alloc _)
          rintro e w2 ⟨rfl, R2, G2⟩
          have X2 := Lib.hid (Blk.grown (((X1.out.set_ 0 (.string (strOfNums (l.drop sz)))).set_ 1 (.int .i64 wy)).alloc _) G2 (by simp))
          have B2 := Lib.hid ((((hb.trans (hb1.mono hb.size)).setCell (p := ⟨w.heap.size + 1, 0, none⟩) (by simp) (.string (strOfNums (l.drop sz)))).setCell (p := ⟨w.heap.size + 1, 1, none⟩) (by simp) (.int .i64 wy)).alloc (by simp [World.setCell]; omega) _ |>.trans (below_of_only G2 (by simp [World.setCell]; omega) (Nat.le_refl _)))
          have RR := Lib.hid R2
          clear R2 x0 x1 y0 y1
          have x2 := X2.out.cell 0
          have x3 := X2.out.cell 1
          go_wp2_with fail
          go_quiet ((first
            | (go_at_call 32; exact quiet_eq (rdr_why _ _ _ _ (Blk.drewN RR.out _)))
            | (go_at_call 33; exact quiet_eq (rdr_left _ _ _ _ (Blk.drewN RR.out _)))))
          go_wp2
          go_roundw
          case rel => exact ⟨k + 1, (l.drop sz), wy, by omega, by go_num, hl.drop sz, len_drop_le l sz 5000 hll, RR.out, X2.out, below_drewN B2.out _⟩
          case measure => simp [intOf]; omega
        · have hwhy : (((why : Nat) : Int) != 0) = true := by simp; omega
          have hwhy2 : (((why : Nat) : Int) == 0) = false := by simp; omega
          clear hw0
          go_wp2_with fail
          refine (ref_next_bad l why hwhy _).mono ?_
          rintro e w1 ⟨rfl, hb1⟩
          have R1 := Lib.hid (Blk.below hR.out hb1 hg0)
          have X1 := Lib.hid (Blk.below hX.out hb1 hg1)
          have x0 := X1.out.cell 0
          have x1 := X1.out.cell 1
          have y0 := X1.out.frozen 0
          have y1 := X1.out.frozen 1
          have z0 : w.heap.size < w1.heap.size := Nat.lt_of_lt_of_le hg0 hb1.size
          have z1 : w.heap.size + 1 < w1.heap.size := Nat.lt_of_lt_of_le hg1 hb1.size
          go_wp2_with fail
          refine (rdr_num_bad w.heap.size l why _ ?_ hwhy2).mono ?_
          · exact ((Blk.far (Blk.far R1.out (by simp) _) (by simp) _).alloc _)
          rintro e w2 ⟨rfl, rfl⟩
          have R2 := ((Blk.far (Blk.far R1.out (p := ⟨w.heap.size + 1, 0, none⟩) (by simp) (.string (strOfNums l))) (p := ⟨w.heap.size + 1, 1, none⟩) (by simp) (.int .i64 why)).alloc (.cells #[.string (strOfNums l), .int .i64 why] 39))
          have X2 := Lib.hid (((X1.out.set_ 0 (.string (strOfNums l))).set_ 1 (.int .i64 why)).alloc (.cells #[.string (strOfNums l), .int .i64 why] 39))
          have B2 := Lib.hid ((((hb.trans (hb1.mono hb.size)).setCell (p := ⟨w.heap.size + 1, 0, none⟩) (by simp) (.string (strOfNums l))).setCell (p := ⟨w.heap.size + 1, 1, none⟩) (by simp) (.int .i64 why)).alloc (by simp [World.setCell]; omega) (.cells #[.string (strOfNums l), .int .i64 why] 39))
          have RR := Lib.hid R2
          clear R2 x0 x1 y0 y1
          have x2 := X2.out.cell 0
          have x3 := X2.out.cell 1
          go_wp2_with fail
          go_quiet ((first
            | (go_at_call 32; exact quiet_eq (rdr_why _ _ _ _ (Blk.drewN RR.out _)))
            | (go_at_call 33; exact quiet_eq (rdr_left _ _ _ _ (Blk.drewN RR.out _)))))
          go_wp2
          go_roundw
          case rel => exact ⟨k + 1, l, why, by omega, by go_num, hl, hll, RR.out, X2.out, below_drewN B2.out _⟩
          case measure => simp [intOf]; omega
      · have hk2 : (z % 2 == 0) = false := by simp; omega
        clear h2
        by_cases hw0 : why = 0
        · subst hw0
          obtain ⟨tt, left, wy, hW⟩ : ∃ tt left wy, wordOf l = (tt, left, wy) := ⟨_, _, _, rfl⟩
          have HB : Bytes left ∧ left.length ≤ l.length := by have := word_bd l hl; rw [hW] at this; exact ⟨this.1, this.2.1⟩
          have HW := Lib.hid hW
          clear hW
          go_wp2_with fail
          refine (ref_word l hl (by omega) _).mono ?_
          rw [HW.out]
          rintro e w1 ⟨rfl, hb1⟩
          have R1 := Lib.hid (Blk.below hR.out hb1 hg0)
          have X1 := Lib.hid (Blk.below hX.out hb1 hg1)
          have x0 := X1.out.cell 0
          have x1 := X1.out.cell 1
          have y0 := X1.out.frozen 0
          have y1 := X1.out.frozen 1
          have z0 : w.heap.size < w1.heap.size := Nat.lt_of_lt_of_le hg0 hb1.size
          have z1 : w.heap.size + 1 < w1.heap.size := Nat.lt_of_lt_of_le hg1 hb1.size
          go_wp2_with fail
          refine (rdr_text w.heap.size l hl (by omega) _ ?_).mono ?_
          · exact ((Blk.far (Blk.far R1.out (by simp) _) (by simp) _).alloc _)
          rw [HW.out]
          rintro e w2 ⟨rfl, R2, G2⟩
          have X2 := Lib.hid (Blk.grown (((X1.out.set_ 0 (.string (strOfNums left))).set_ 1 (.int .i64 wy)).alloc _) G2 (by simp))
          have B2 := Lib.hid ((((hb.trans (hb1.mono hb.size)).setCell (p := ⟨w.heap.size + 1, 0, none⟩) (by simp) (.string (strOfNums left))).setCell (p := ⟨w.heap.size + 1, 1, none⟩) (by simp) (.int .i64 wy)).alloc (by simp [World.setCell]; omega) _ |>.trans (below_of_only G2 (by simp [World.setCell]; omega) (Nat.le_refl _)))
          have RR := Lib.hid R2
          clear R2 x0 x1 y0 y1
          have x2 := X2.out.cell 0
          have x3 := X2.out.cell 1
          go_wp2_with fail
          go_quiet ((first
            | (go_at_call 32; exact quiet_eq (rdr_why _ _ _ _ (Blk.drewN RR.out _)))
            | (go_at_call 33; exact quiet_eq (rdr_left _ _ _ _ (Blk.drewN RR.out _)))))
          go_wp2
          go_roundw
          case rel => exact ⟨k + 1, left, wy, by omega, by go_num, HB.1, Nat.le_trans HB.2 hll, RR.out, X2.out, below_drewN B2.out _⟩
          case measure => simp [intOf]; omega
        · have hwhy : (((why : Nat) : Int) != 0) = true := by simp; omega
          have hwhy2 : (((why : Nat) : Int) == 0) = false := by simp; omega
          clear hw0
          go_wp2_with fail
          refine (ref_word_bad l why hwhy _).mono ?_
          rintro e w1 ⟨rfl, hb1⟩
          have R1 := Lib.hid (Blk.below hR.out hb1 hg0)
          have X1 := Lib.hid (Blk.below hX.out hb1 hg1)
          have x0 := X1.out.cell 0
          have x1 := X1.out.cell 1
          have y0 := X1.out.frozen 0
          have y1 := X1.out.frozen 1
          have z0 : w.heap.size < w1.heap.size := Nat.lt_of_lt_of_le hg0 hb1.size
          have z1 : w.heap.size + 1 < w1.heap.size := Nat.lt_of_lt_of_le hg1 hb1.size
          go_wp2_with fail
          refine (rdr_text_bad w.heap.size l why _ ?_ hwhy2).mono ?_
          · exact ((Blk.far (Blk.far R1.out (by simp) _) (by simp) _).alloc _)
          rintro e w2 ⟨rfl, rfl⟩
          have R2 := ((Blk.far (Blk.far R1.out (p := ⟨w.heap.size + 1, 0, none⟩) (by simp) (.string (strOfNums l))) (p := ⟨w.heap.size + 1, 1, none⟩) (by simp) (.int .i64 why)).alloc (.cells #[.string (strOfNums l), .int .i64 why] 39))
          have X2 := Lib.hid (((X1.out.set_ 0 (.string (strOfNums l))).set_ 1 (.int .i64 why)).alloc (.cells #[.string (strOfNums l), .int .i64 why] 39))
          have B2 := Lib.hid ((((hb.trans (hb1.mono hb.size)).setCell (p := ⟨w.heap.size + 1, 0, none⟩) (by simp) (.string (strOfNums l))).setCell (p := ⟨w.heap.size + 1, 1, none⟩) (by simp) (.int .i64 why)).alloc (by simp [World.setCell]; omega) (.cells #[.string (strOfNums l), .int .i64 why] 39))
          have RR := Lib.hid R2
          clear R2 x0 x1 y0 y1
          have x2 := X2.out.cell 0
          have x3 := X2.out.cell 1
          go_wp2_with fail
          go_quiet ((first
            | (go_at_call 32; exact quiet_eq (rdr_why _ _ _ _ (Blk.drewN RR.out _)))
            | (go_at_call 33; exact quiet_eq (rdr_left _ _ _ _ (Blk.drewN RR.out _)))))
          go_wp2
          go_roundw
          case rel => exact ⟨k + 1, l, why, by omega, by go_num, hl, hll, RR.out, X2.out, below_drewN B2.out _⟩
          case measure => simp [intOf]; omega
    · go_wp2_with (first
        | (go_at_call 26; refine (lives04 _).mono ?_; rintro e w1 ⟨rfl, hb1'⟩)
        | (go_at_call 34; refine (lit_num n hn _).mono ?_; rintro e w2 ⟨rfl, hb2'⟩)
        | (go_at_call 35; refine (ref_num n hn _).mono ?_; rintro e w3 ⟨rfl, hb3'⟩)
        | (go_at_call 36; refine (lit_text s (by omega) _).mono ?_; rintro e w4 ⟨rfl, hb4'⟩)
        | (go_at_call 37; refine (ref_text s (by omega) _).mono ?_; rintro e w5 ⟨rfl, hb5'⟩)
        | (go_at_call 38; refine (lit_sum s hs (by omega) _).mono ?_; rintro e w6 ⟨rfl, hb6'⟩)
        | (go_at_call 39; refine (ref_sum s hs (by omega) _).mono ?_; rintro e w7 ⟨rfl, rfl⟩))
      go_ret
      exact ⟨rfl, by
        have t1 := hb.trans (hb1'.mono hb.size)
        have t2 := t1.trans (hb2'.mono t1.size)
        have t3 := t2.trans (hb3'.mono t2.size)
        have t4 := t3.trans (hb4'.mono t3.size)
        have t5 := t4.trans (hb5'.mono t4.size)
        exact t5.trans (hb6'.mono t5.size)⟩
set_option maxRecDepth 100000 in
set_option maxHeartbeats 1000000 in
theorem littleTells_out (n : Int) (s bs : List Int) (A : Option Addr) (m c : Nat) (w : World) (h : 5000 < s.length ∨ 5000 < bs.length ∨ 60 < m) :
    Calls Try.prog 6 #[.int .u64 n, .string (strOfNums s), .string (strOfNums bs), .slice A m c] w fun e w' => e = .returned (.bool true) ∧ Below w.heap.size w w' := by
  have hss := strOfNums_size
  by_cases h1 : 5000 < s.length
  · have t1 : decide (5000 < (s.length : Int)) = true := by simp; omega
    clear h h1
    go_enter Try.func6, Try.ntmps6
    go_wp2_with (go_at_call 26; refine (lives04 _).mono ?_; rintro e w1 ⟨rfl, hb1'⟩)
    go_ret
    exact ⟨rfl, hb1'⟩
  · have t1 : decide (5000 < (s.length : Int)) = false := by simp; omega
    by_cases h2 : 5000 < bs.length
    · have t2 : decide (5000 < (bs.length : Int)) = true := by simp; omega
      clear h h1 h2
      go_enter Try.func6, Try.ntmps6
      go_wp2_with (go_at_call 26; refine (lives04 _).mono ?_; rintro e w1 ⟨rfl, hb1'⟩)
      go_ret
      exact ⟨rfl, hb1'⟩
    · have t2 : decide (5000 < (bs.length : Int)) = false := by simp; omega
      have t3 : decide (60 < (m : Int)) = true := by simp; omega
      clear h h1 h2
      go_enter Try.func6, Try.ntmps6
      go_wp2_with (go_at_call 26; refine (lives04 _).mono ?_; rintro e w1 ⟨rfl, hb1'⟩)
      go_ret
      exact ⟨rfl, hb1'⟩
theorem littleTells_any (n : Int) (hn : Word n) (s bs : ByteArray) (A : Option Addr) (m c : Nat) (zs : List Int) (w : World)
    (hr : Rd w w.heap.size A m (zs.map (.int .u8))) (hz : ∀ z ∈ zs, 0 ≤ z ∧ z ≤ 255) :
    Calls Try.prog 6 #[.int .u64 n, .string s, .string bs, .slice A m c] w fun e w' => e = .returned (.bool true) ∧ Below w.heap.size w w' := by
  obtain ⟨k, rfl, hk⟩ := word_nat hn
  rw [← str_of s, ← str_of bs]
  by_cases h : 5000 < (bytesOf s).length ∨ 5000 < (bytesOf bs).length ∨ 60 < m
  · exact littleTells_out k _ _ A m c w h
  · exact littleTells_walk k hk _ _ (bytes_of s) (bytes_of bs) A m c zs w hr hz (by omega) (by omega) (by omega)
end Go.Proofs.Ytknnalaemndnaaa
