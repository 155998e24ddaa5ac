/- The walk of the law LittleBack: there and back. -/
import Derived.Test.YtknnalaemndnaaaLaw04
import Derived.Test.YtknnalaemndnaaaLitB
import Derived.Test.YtknnalaemndnaaaOpenS
import Derived.Lib.MinMax
namespace Go.Proofs.Ytknnalaemndnaaa
open Go.RowKit
theorem nums_take {zs : List Int} {k : Nat} (h : k < zs.length) : numsL (zs.take (k + 1)) = numsL (zs.take k) ++ numL (ig zs k).toNat := by
  rw [take_step h]; simp [numsL]
theorem texts_take {ts : List (List Int)} {k : Nat} (h : k < ts.length) : textsL (ts.take (k + 1)) = textsL (ts.take k) ++ textL (tg ts k) := by
  rw [take_tg h]; simp [textsL]
theorem nums_drop {zs : List Int} {k : Nat} (h : k < zs.length) : numsL (zs.drop k) = numL (ig zs k).toNat ++ numsL (zs.drop (k + 1)) := by
  rw [numsL, drop_at h, List.flatMap_cons]; rfl
theorem texts_drop {ts : List (List Int)} {k : Nat} (h : k < ts.length) : textsL (ts.drop k) = textL (tg ts k) ++ textsL (ts.drop (k + 1)) := by
  rw [textsL, drop_tg h, List.flatMap_cons]; rfl
set_option maxRecDepth 100000 in
set_option maxHeartbeats 4000000 in
theorem littleBack_walk (zs : List Int) (hz : ∀ z ∈ zs, Word z) (ts : List (List Int)) (hts : ∀ t ∈ ts, Bytes t) (bs : List Int) (hbs : Bytes bs) (hbl : bs.length ≤ 9223372036854775807)
    (A : Option Addr) (m c : Nat) (A' : Option Addr) (m' c' : Nat) (w : World) (hr : Rd w w.heap.size A m (zs.map (.int .u64))) (hr' : Rd w w.heap.size A' m' (ts.map fun t => .string (strOfNums t))) :
    Calls Try.prog 7 #[.slice A m c, .slice A' m' c', .string (strOfNums bs)] w fun e w' => e = .returned (.bool true) ∧ Below w.heap.size w w' := by
  have hss := strOfNums_size
  have hap := str_append
  have hk3 : (ByteArray.mk #[]) = strOfNums [] := by decide +kernel
  have HR := Lib.hid hr
  have HR' := Lib.hid hr'
  have HL := Lib.hid hr.lenI
  have HL' : Hid (ts.length = m') := by have := hr'.1; rw [List.length_map] at this; exact this
  clear hr hr'
  by_cases hg : 60 < m ∨ 60 < m'
  · by_cases h1 : 60 < m
    · have t1 : decide (60 < (m : Int)) = true := by simp; omega
      clear hg h1
      go_enter Try.func7, Try.ntmps7
      go_wp2_with (go_at_call 26; refine (lives04 _).mono ?_; rintro e w1 ⟨rfl, hb1⟩)
      go_ret
      exact ⟨rfl, hb1⟩
    · have t1 : decide (60 < (m : Int)) = false := by simp; omega
      have t2 : decide (60 < (m' : Int)) = true := by simp; omega
      clear hg h1
      go_enter Try.func7, Try.ntmps7
      go_wp2_with (go_at_call 26; refine (lives04 _).mono ?_; rintro e w1 ⟨rfl, hb1⟩)
      go_ret
      exact ⟨rfl, hb1⟩
  have hm : m ≤ 60 := by omega
  have hm' : m' ≤ 60 := by omega
  have t1 : decide (60 < (m : Int)) = false := by simp; omega
  have t2 : decide (60 < (m' : Int)) = false := by simp; omega
  clear hg
  go_enter Try.func7, Try.ntmps7
  go_wp2_with (go_at_call 26; refine (lives04 _).mono ?_; rintro e w1 ⟨rfl, hb1⟩)
  go_loopw [7, 32] (fun v i wr => ∃ k : Nat, k ≤ m ∧ i = .int .i64 k ∧ v = .string (strOfNums (numsL (zs.take k))) ∧ Below w.heap.size w wr) (fun _ i _ => m - (intOf i).toNat)
  case atStart => exact ⟨0, Nat.zero_le _, rfl, rfl, hb1⟩
  case round =>
    clear hb1
    obtain ⟨k, hk, rfl, rfl, hb⟩ := hrel
    by_cases hlt : k < m
    · obtain ⟨b, o, rfl, hbl0, hc0⟩ := HR.out.atI hlt
      have hc := (hb.cell (p := ⟨b, o + k, none⟩) hbl0).trans hc0
      obtain ⟨x, hx, hx64⟩ := word_nat (hz _ (ig_mem (k := k) (by rw [HL.out]; exact hlt)))
      have HT : Hid (numsL (zs.take (k + 1)) = numsL (zs.take k) ++ numL x) := by
        have := nums_take (zs := zs) (k := k) (by rw [HL.out]; exact hlt)
        rw [hx] at this; exact this
      rw [hx] at hc
      have hl1 : (numsL (zs.take k)).length ≤ 600 := by have := len_nums (zs.take k); simp at this; omega
      have hl2 := (len_num x).1
      clear hx hc0
      go_wp2_with (go_at_call 34; refine (lit_num x hx64 _).mono ?_; rintro e w2 ⟨rfl, hb2⟩)
      go_roundw
      case rel => exact ⟨k + 1, by omega, by go_num, by rw [HT.out], hb.trans (hb2.mono hb.size)⟩
      case measure => simp [intOf]; omega
    · obtain rfl : k = m := by omega
      have hall : zs.take k = zs := by rw [← HL.out, List.take_length]
      rw [hall]
      have hlz : (numsL zs).length ≤ 600 := by have := len_nums zs; rw [HL.out] at this; omega
      clear hall
      go_wp2
      go_loopw [7, 43] (fun v i wr => ∃ j : Nat, j ≤ m' ∧ i = .int .i64 j ∧ v = .string (strOfNums (numsL zs ++ textsL (ts.take j))) ∧ Below w.heap.size w wr ∧ Hid (∀ t ∈ ts.take j, t.length ≤ 1000)) (fun _ i _ => m' - (intOf i).toNat)
      case atStart => exact ⟨0, Nat.zero_le _, rfl, by simp [textsL], hb, fun t ht => by simp at ht⟩
      case round =>
        clear hb
        obtain ⟨j, hj, rfl, rfl, hb, hsm⟩ := hrel
        by_cases hlt' : j < m'
        · obtain ⟨b, o, rfl, hbl0, hc0⟩ := HR'.out.atS hlt'
          have hc := (hb.cell (p := ⟨b, o + j, none⟩) hbl0).trans hc0
          have hjl : j < ts.length := by rw [HL'.out]; exact hlt'
          have HT := Lib.hid (texts_take hjl)
          have HS := Lib.hid (take_tg hjl)
          obtain ⟨t, ht⟩ : ∃ t, tg ts j = t := ⟨_, rfl⟩
          rw [ht] at hc HT HS
          clear hc0 ht
          by_cases hlong : 1000 < t.length
          · have t3 : decide (1000 < (t.length : Int)) = true := by simp; omega
            go_wp2
            go_ret
            exact ⟨rfl, hb⟩
          · have hl1 : (textsL (ts.take j)).length ≤ 60600 := by have := len_texts (ts.take j) hsm.out; simp at this; omega
            have hl2 : (textL t).length ≤ 1010 := by have := (len_num t.length).1; simp [textL]; omega
            go_wp2_with (go_at_call 36; refine (lit_text t (by omega) _).mono ?_; rintro e w2 ⟨rfl, hb2⟩)
            go_roundw
            case rel => exact ⟨j + 1, by omega, by go_num, by rw [HT.out], hb.trans (hb2.mono hb.size), by
              show ∀ t ∈ ts.take (j + 1), t.length ≤ 1000
              rw [HS.out]
              intro x hx
              rcases List.mem_append.1 hx with q | q
              · exact hsm.out x q
              · simp at q; subst q; omega⟩
            case measure => simp [intOf]; omega
        · obtain rfl : j = m' := by omega
          have hall : ts.take j = ts := by rw [← HL'.out, List.take_length]
          rw [hall] at hsm ⊢
          clear hall
          obtain ⟨wo, rfl⟩ : ∃ wo : World, wo = wr := ⟨_, rfl⟩
          have hSB : Bytes (numsL zs ++ textsL ts) := (bytes_nums zs).append (bytes_texts hts)
          have hSL : (numsL zs ++ textsL ts).length ≤ 70000 := by have := len_texts ts hsm.out; rw [HL'.out] at this; rw [List.length_append]; omega
          go_wp2_with fail
          refine (lit_new (numsL zs ++ textsL ts) _).mono ?_
          rintro e wa ⟨rfl, rfl⟩
          go_wp2_with fail
          refine (lit_new bs _).mono ?_
          rintro e wb ⟨rfl, hwb⟩
          have Q1 := Lib.hid (show Blk wb wo.heap.size 106 #[.string (strOfNums (numsL zs ++ textsL ts)), .int .i64 0] by rw [← hwb]; exact heap_alloc2_old wo _ _)
          have Q2 := Lib.hid (show Blk wb (wo.heap.size + 1) 106 #[.string (strOfNums bs), .int .i64 0] by rw [← hwb]; exact heap_alloc2_new wo _ _)
          have hB := Lib.hid (show Below w.heap.size w wb by rw [← hwb]; exact (hb.alloc hb.size _).alloc (by have := hb.size; simp; omega) _)
          have hsz0 := hb.size
          have hwbs : (wo.alloc (.cells #[.string (strOfNums (numsL zs ++ textsL ts)), .int .i64 0] 106)).heap.size = wo.heap.size + 1 := by simp
          clear hwb
          clear hwbs hSB hk3 hap hb
          go_wp2_with fail
          go_loopw [67] (fun i wr => ∃ k2 : Nat, k2 ≤ k ∧ i = .int .i64 k2 ∧ Hid (Blk wr wo.heap.size 106 #[.string (strOfNums (numsL (zs.drop k2) ++ textsL ts)), .int .i64 0]) ∧ Hid (Blk wr (wo.heap.size + 1) 106 #[.string (strOfNums bs), .int .i64 0]) ∧ Below w.heap.size w wr) (fun i _ => k - (intOf i).toNat)
          case atStart => exact ⟨0, Nat.zero_le _, rfl, Q1, Q2, hB.out⟩
          case round =>
            clear Q1 Q2 hB
            obtain ⟨k2, hk2, rfl, Q1, Q2, hb⟩ := hrel
            by_cases hlt2 : k2 < k
            · obtain ⟨b, o, rfl, hbl0, hc0⟩ := HR.out.atI hlt2
              have hkl : k2 < zs.length := by rw [HL.out]; exact hlt2
              obtain ⟨x, hx, hx64⟩ := word_nat (hz _ (ig_mem (k := k2) hkl))
              have HD : numsL (zs.drop k2) = numL x ++ numsL (zs.drop (k2 + 1)) := by
                have := nums_drop hkl
                rw [hx] at this; exact this
              have q1 := Q1.out
              rw [HD, List.append_assoc] at q1
              have HY : Bytes (numL x ++ (numsL (zs.drop (k2 + 1)) ++ textsL ts)) := (bytes_num x).append ((bytes_nums _).append (bytes_texts hts))
              have HZ : (numL x ++ (numsL (zs.drop (k2 + 1)) ++ textsL ts)).length ≤ 9223372036854775807 := by
                have h1 := (len_num x).1
                have h2 := len_nums (zs.drop (k2 + 1))
                have h3 : (textsL ts).length ≤ 70000 := by rw [List.length_append] at hSL; omega
                rw [List.length_drop, HL.out] at h2
                rw [List.length_append, List.length_append]; omega
              have hc := (hb.cell (p := ⟨b, o + k2, none⟩) hbl0).trans hc0
              rw [hx] at hc
              have hbz := hb.size
              have hlt3 := Q2.out.lt
              go_wp2_with fail
              refine (rdr_num wo.heap.size _ HY HZ _ q1 x (numL x).length 0 (numOf_num x hx64 _)).mono ?_
              rw [List.drop_left]
              rintro e w2 ⟨rfl, R2, G2⟩
              go_wp2
              go_roundw
              case rel => exact ⟨k2 + 1, by omega, by go_num, R2, Q2.out.grown G2 (by simp), hb.trans (below_of_only G2 hbz (by omega))⟩
              case measure => simp [intOf]; omega
            · obtain rfl : k2 = k := by omega
              have hall : zs.drop k2 = [] := by rw [← HL.out, List.drop_length]
              rw [hall] at Q1
              clear hall
              go_wp2_with fail
              go_loopw [78] (fun i wr => ∃ j2 : Nat, j2 ≤ j ∧ i = .int .i64 j2 ∧ Hid (Blk wr wo.heap.size 106 #[.string (strOfNums (textsL (ts.drop j2))), .int .i64 0]) ∧ Hid (Blk wr (wo.heap.size + 1) 106 #[.string (strOfNums bs), .int .i64 0]) ∧ Below w.heap.size w wr) (fun i _ => j - (intOf i).toNat)
              case atStart => exact ⟨0, Nat.zero_le _, rfl, Q1, Q2, hb⟩
              case round =>
                clear Q1 Q2 hb
                obtain ⟨j2, hj2, rfl, Q1, Q2, hb⟩ := hrel
                by_cases hlt2 : j2 < j
                · obtain ⟨b, o, rfl, hbl0, hc0⟩ := HR'.out.atS hlt2
                  have hkl : j2 < ts.length := by rw [HL'.out]; exact hlt2
                  obtain ⟨t, ht⟩ : ∃ t, tg ts j2 = t := ⟨_, rfl⟩
                  have htm : t ∈ ts := by rw [← ht]; exact tg_mem hkl
                  have hlong := hsm.out t htm
                  have hc := (hb.cell (p := ⟨b, o + j2, none⟩) hbl0).trans hc0
                  have HD := texts_drop hkl
                  rw [ht] at hc HD
                  have q1 := Q1.out
                  rw [HD] at q1
                  have HY : Bytes (textL t ++ textsL (ts.drop (j2 + 1))) := (bytes_text (hts t htm)).append (bytes_texts fun y hy => hts y (List.mem_of_mem_drop hy))
                  have HZ : (textL t ++ textsL (ts.drop (j2 + 1))).length ≤ 9223372036854775807 := by
                    have h1 := (len_num t.length).1
                    have h2 := len_texts (ts.drop (j2 + 1)) (fun y hy => hsm.out y (List.mem_of_mem_drop hy))
                    rw [List.length_drop, HL'.out] at h2
                    rw [List.length_append, textL, List.length_append]; omega
                  have hbz := hb.size
                  have hlt3 := Q2.out.lt
                  clear hc0 ht
                  go_wp2_with fail
                  refine (rdr_text wo.heap.size _ HY HZ _ q1).mono ?_
                  rw [word_back t _ (by omega)]
                  rintro e w2 ⟨rfl, R2, G2⟩
                  go_wp2
                  go_roundw
                  case rel => exact ⟨j2 + 1, by omega, by go_num, R2, Q2.out.grown G2 (by simp), hb.trans (below_of_only G2 hbz (by omega))⟩
                  case measure => simp [intOf]; omega
                · obtain rfl : j2 = j := by omega
                  have hall : ts.drop j2 = [] := by rw [← HL'.out, List.drop_length]
                  rw [hall] at Q1
                  have hbz := hb.size
                  have hlt3 := Q2.out.lt
                  have Q1' : RdrAt wr wo.heap.size [] 0 := Q1.out
                  clear hall Q1
                  obtain ⟨mm, sz, wy, hN⟩ : ∃ mm sz wy, numOf bs = (mm, sz, wy) := ⟨_, _, _, rfl⟩
                  have HN := Lib.hid hN
                  clear hN
                  go_wp2_with fail
                  refine (rdr_why wo.heap.size [] 0 _ Q1').mono ?_
                  rintro e w' ⟨rfl, rfl⟩
                  go_wp2_with fail
                  refine (rdr_left wo.heap.size [] 0 _ Q1').mono ?_
                  rintro e w' ⟨rfl, rfl⟩
                  go_wp2_with fail
                  refine (rdr_num (wo.heap.size + 1) bs hbs hbl _ Q2.out mm sz wy HN).mono ?_
                  rintro e w2 ⟨rfl, R2, G2⟩
                  have B2 := hb.trans (below_of_only G2 hbz (by omega))
                  go_wp2_with fail
                  refine (rdr_why (wo.heap.size + 1) _ _ _ R2).mono ?_
                  rintro e w' ⟨rfl, rfl⟩
                  by_cases hw : wy = 0
                  · subst hw
                    have hcn := numOf_canon hbs HN.out
                    obtain ⟨c1, c2, c3, c4⟩ := hcn
                    have hmin : min (numL mm).length bs.length = (numL mm).length := by omega
                    have hex : (strOfNums bs).extract 0 (numL mm).length = strOfNums (numL mm) := by rw [str_extract, List.drop_zero, Nat.sub_zero, ← c3, c2]
                    have R3 : RdrAt w2 (wo.heap.size + 1) (bs.drop sz) 0 := R2
                    have hdl : (((bs.drop sz).length : Nat) : Int) = (bs.length : Int) - ((numL mm).length : Int) := by rw [List.length_drop]; omega
                    have HC := Lib.hid c2
                    have R4 := Lib.hid R3
                    clear R2 R3 c2
                    go_wp2_with (first
                      | (go_at_call 34; refine (lit_num mm c1 _).mono ?_; rintro e w5 ⟨rfl, hb5⟩)
                      | (go_at_call 33; (with_reducible refine (rdr_left (wo.heap.size + 1) _ 0 _ (R4.out.below hb5 R4.out.lt)).mono ?_); rintro e w' ⟨rfl, rfl⟩))
                    have hm2 : (min ((numL mm).length : Int) (bs.length : Int)).toNat = (numL mm).length := by omega
                    rw [hm2, hex, beq_self_eq_true]
                    go_ret
                    exact ⟨rfl, B2.trans (hb5.mono B2.size)⟩
                  · have hwn : (((wy : Nat) : Int) == 0) = false := by simp; omega
                    have hwn2 : (((wy : Nat) : Int) != 0) = true := by simp; omega
                    have hbd := numFrom_bd bs 0 0
                    rw [show numFrom bs 0 0 = (mm, sz, wy) from HN.out] at hbd
                    obtain ⟨rfl, rfl⟩ := hbd.2.1 hw
                    have R3 : RdrAt w2 (wo.heap.size + 1) bs wy := R2
                    clear hbd
                    go_wp2_with (go_at_call 33; (with_reducible refine (rdr_left (wo.heap.size + 1) _ _ _ R3).mono ?_); rintro e w' ⟨rfl, rfl⟩)
                    go_ret
                    exact ⟨rfl, B2⟩
theorem littleBack_any (zs : List Int) (hz : ∀ z ∈ zs, Word z) (ts : List (List Int)) (hts : ∀ t ∈ ts, Bytes t) (bs : ByteArray) (hbl : bs.size ≤ 9223372036854775807)
    (A : Option Addr) (m c : Nat) (A' : Option Addr) (m' c' : Nat) (w : World) (hr : Rd w w.heap.size A m (zs.map (.int .u64))) (hr' : Rd w w.heap.size A' m' (ts.map fun t => .string (strOfNums t))) :
    Calls Try.prog 7 #[.slice A m c, .slice A' m' c', .string bs] w fun e w' => e = .returned (.bool true) ∧ Below w.heap.size w w' := by
  rw [← str_of bs]
  exact littleBack_walk zs hz ts hts _ (bytes_of bs) (by rw [← size_of bs] at hbl; exact hbl) A m c A' m' c' w hr hr'
end Go.Proofs.Ytknnalaemndnaaa
