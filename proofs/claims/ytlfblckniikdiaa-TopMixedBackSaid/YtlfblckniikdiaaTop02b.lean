/- Walk of the law TopMixedBack. -/
import Derived.Test.YtlfblckniikdiaaTop02
namespace Go.Proofs.Ytlfblckniikdiaa
open Go.RowKit
set_option maxRecDepth 100000 in
set_option maxHeartbeats 1000000 in
theorem topMixed_out (A : Option Addr) (m c : Nat) (w : World) (h : 100 < m) :
    Calls Try.prog 5 #[.slice A m c] w fun e w' => e = .returned (.bool true) ∧ Below w.heap.size w w' := by
  have t1 : decide (100 < (m : Int)) = true := by simp; omega
  clear h
  go_enter Try.func5, Try.ntmps5
  go_wp2_with (go_at_call 7; refine (begins2_any _).mono ?_; rintro e w1 ⟨rfl, hb1⟩)
  go_ret
  exact ⟨rfl, hb1⟩
/-- The reader of what lacks its last byte: how it stands when k of m numbers are read. -/
def Cut (wr : World) (g m k : Nat) (ns D : List Int) : Prop := ∃ l wy, RdrAt wr g l wy ∧ (k < m → wy = 0 ∧ l = numsL (ns.drop k) ++ D) ∧ (k = m → wy = 8)
/-- One number more. -/
theorem Cut.step {wr : World} {g m k : Nat} {ns D : List Int} (h : Cut wr g m k ns D) (hk : k < m) (hn : ns.length = m - 1) (hns : ∀ j, j < m - 1 → ∃ y : Nat, y < 18446744073709551616 ∧ ig ns j = y) (hD : Bytes D) (hdl : D.length ≤ 10) (hsl : m ≤ 100)
    (hs : numOf D = (0, 0, 8)) :
    Calls Try.prog 11 #[.pointer (some ⟨g, 0, none⟩)] wr fun e w' => ∃ x : Nat, e = .returned (.int .u64 x) ∧ Cut w' g m (k + 1) ns D ∧ wr.grownBy w' (some g) := by
  obtain ⟨l, wy, hr, h1, h2⟩ := h
  obtain ⟨rfl, rfl⟩ := h1 hk
  by_cases hlast : k < m - 1
  · obtain ⟨y, hy, hig⟩ := hns k hlast
    rw [nums_drop1 (by omega), hig, Int.toNat_natCast, List.append_assoc] at hr
    have hlen : (numL y ++ (numsL (ns.drop (k + 1)) ++ D)).length ≤ 9223372036854775807 := by
      have h1 := (len_num y).1
      have h2 := len_nums (ns.drop (k + 1))
      rw [List.length_drop] at h2
      rw [List.length_append, List.length_append]; omega
    refine (rdr_num g _ ((bytes_num y).append ((bytes_nums _).append hD)) hlen wr hr y (numL y).length 0 (numOf_num y hy _)).mono ?_
    rw [List.drop_left]
    rintro e w' ⟨rfl, hr', hg⟩
    exact ⟨y, rfl, ⟨_, _, hr', fun _ => ⟨rfl, rfl⟩, fun h => by omega⟩, hg⟩
  · have hnil : ns.drop k = [] := List.drop_of_length_le (by omega)
    rw [hnil] at hr
    have hr' : RdrAt wr g D 0 := hr
    refine (rdr_num g D hD (by omega) wr hr' 0 0 8 hs).mono ?_
    rintro e w' ⟨rfl, hr2, hg⟩
    exact ⟨0, rfl, ⟨_, _, hr2, fun h => by omega, fun _ => rfl⟩, hg⟩
set_option maxRecDepth 100000 in
set_option maxHeartbeats 4000000 in
theorem topMixed_walk (A : Option Addr) (m c : Nat) (zs : List Int) (hz : ∀ z ∈ zs, Word z) (w : World) (hr : Rd w w.heap.size A m (zs.map (.int .u64))) (hm : m ≤ 100) :
    Calls Try.prog 5 #[.slice A m c] w fun e w' => e = .returned (.bool true) ∧ Below w.heap.size w w' := by
  have hss := strOfNums_size
  have hap := str_append
  have hk3 : (ByteArray.mk #[]) = strOfNums [] := by decide +kernel
  have t1 : decide (100 < (m : Int)) = false := by simp; omega
  have HR := Lib.hid hr
  have HL := Lib.hid hr.lenI
  obtain ⟨ms, hms⟩ : ∃ ms, zs.map mixI = ms := ⟨_, rfl⟩
  have HML : Hid (ms.length = m) := by show _ = _; rw [← hms, List.length_map]; exact HL.out
  have HM : Hid (∀ k, k < m → ig ms k = mixI (ig zs k)) := fun k hk => by rw [← hms]; exact ig_map mixI (by rw [HL.out]; exact hk)
  have HB : Hid (Bytes (numsL ms)) := bytes_nums ms
  clear hr hms
  go_enter Try.func5, Try.ntmps5
  go_wp2_with (go_at_call 7; refine (begins2_any _).mono ?_; rintro e w1 ⟨rfl, hb1⟩)
  go_loopw [3, 17] (fun v i wr => ∃ k : Nat, k ≤ m ∧ i = .int .i64 k ∧ v = .string (strOfNums (numsL (ms.take k))) ∧ Below w.heap.size w wr) (fun _ i _ => m - (intOf i).toNat)
  case atStart => exact ⟨0, Nat.zero_le _, rfl, rfl, hb1⟩
  case round =>
    clear hb1
    obtain ⟨k, hk, rfl, rfl, hb⟩ := hrel
    by_cases hlt : k < m
    · obtain ⟨b, o, rfl, hbl0, hc0⟩ := HR.out.atI hlt
      have hc := (hb.cell (p := ⟨b, o + k, none⟩) hbl0).trans hc0
      have hwz := hz _ (ig_mem_ (k := k) (by rw [HL.out]; exact hlt))
      obtain ⟨x, hx, hx64⟩ := word_nat (word_mixI hwz)
      have hmx := rng_mix (ig zs k)
      rw [hx] at hmx
      have HT : Hid (numsL (ms.take (k + 1)) = numsL (ms.take k) ++ numL x) := by
        have := nums_take1 (zs := ms) (k := k) (by rw [HML.out]; exact hlt)
        rw [HM.out k hlt, hx] at this; exact this
      have hl1 : (numsL (ms.take k)).length ≤ 1000 := by have := len_nums (ms.take k); simp at this; omega
      have hl2 := (len_num x).1
      have HX := Lib.hid hmx
      clear hx hc0 hmx hwz
      go_wp2_with (first
        | (go_at_call 21; refine (HX.out _).mono ?_; rintro e w' ⟨rfl, rfl⟩)
        | (go_at_call 9; refine (lit_num x hx64 _).mono ?_; rintro e w2 ⟨rfl, hb2⟩))
      go_roundw
      case rel => exact ⟨k + 1, by omega, by go_num, by rw [HT.out], hb.trans (hb2.mono hb.size)⟩
      case measure => simp [intOf]; omega
    · obtain rfl : k = m := by omega
      have hall : ms.take k = ms := by rw [← HML.out, List.take_length]
      rw [hall]
      have hlz : (numsL ms).length ≤ 1000 := by have := len_nums ms; rw [HML.out] at this; omega
      clear hall
      obtain ⟨wo, rfl⟩ : ∃ wo : World, wo = wr := ⟨_, rfl⟩
      go_wp2_with fail
      refine (lit_new (numsL ms) _).mono ?_
      rintro e wa ⟨rfl, hwa⟩
      have Q1 : Hid (RdrAt wa wo.heap.size (numsL (ms.drop 0)) 0) := by show RdrAt _ _ _ _; rw [← hwa]; exact RdrAt.new wo _
      have B1 : Below w.heap.size w wa := by rw [← hwa]; exact hb.alloc hb.size _
      have hsz0 := hb.size
      clear hwa hb hk3 hap
      go_wp2_with fail
      go_loopw [33] (fun i wr => ∃ k2 : Nat, k2 ≤ k ∧ i = .int .i64 k2 ∧ Hid (RdrAt wr wo.heap.size (numsL (ms.drop k2)) 0) ∧ Below w.heap.size w wr) (fun i _ => k - (intOf i).toNat)
      case atStart => exact ⟨0, Nat.zero_le _, rfl, Q1, B1⟩
      case round =>
        clear Q1 B1
        obtain ⟨k2, hk2, rfl, Q1, hb⟩ := hrel
        by_cases hlt2 : k2 < k
        · obtain ⟨b, o, rfl, hbl0, hc0⟩ := HR.out.atI hlt2
          have hkl : k2 < ms.length := by rw [HML.out]; exact hlt2
          have hwz := hz _ (ig_mem_ (k := k2) (by rw [HL.out]; exact hlt2))
          obtain ⟨x, hx, hx64⟩ := word_nat (word_mixI hwz)
          have hun := rng_unmix (mixI (ig zs k2))
          rw [unmixI_mixI hwz, hx] at hun
          have HU := Lib.hid hun
          have HD : numsL (ms.drop k2) = numL x ++ numsL (ms.drop (k2 + 1)) := by
            have := nums_drop1 hkl
            rw [HM.out k2 hlt2, hx] at this; exact this
          have q1 := Q1.out
          rw [HD] at q1
          have HY : Bytes (numL x ++ numsL (ms.drop (k2 + 1))) := (bytes_num x).append (bytes_nums _)
          have HZ : (numL x ++ numsL (ms.drop (k2 + 1))).length ≤ 9223372036854775807 := by
            have h1 := (len_num x).1
            have h2 := len_nums (ms.drop (k2 + 1))
            rw [List.length_drop, HML.out] at h2
            rw [List.length_append]; omega
          have hc := (hb.cell (p := ⟨b, o + k2, none⟩) hbl0).trans hc0
          have hbz := hb.size
          clear hun hx hc0 HD
          go_wp2_with fail
          refine (rdr_num wo.heap.size _ HY HZ _ q1 x (numL x).length 0 (numOf_num x hx64 _)).mono ?_
          rw [List.drop_left]
          rintro e w2 ⟨rfl, R2, G2⟩
          have B2 := hb.trans (below_of_only G2 hbz (by omega))
          have hc2 : w2.cell? ⟨b, o + k2, none⟩ = some (.int .u64 (ig zs k2)) := (B2.cell (p := ⟨b, o + k2, none⟩) hbl0).trans ((hb.cell (p := ⟨b, o + k2, none⟩) hbl0).symm.trans hc)
          have R3 := Lib.hid R2
          clear q1 R2 hc
          go_wp2_with (go_at_call 22; refine (HU.out _).mono ?_; rintro e w' ⟨rfl, rfl⟩)
          go_roundw
          case rel => exact ⟨k2 + 1, by omega, by go_num, R3, B2⟩
          case measure => simp [intOf]; omega
        · obtain rfl : k2 = k := by omega
          have hall : ms.drop k2 = [] := by rw [← HML.out, List.drop_length]
          rw [hall] at Q1
          clear hall
          have hbz := hb.size
          by_cases hm0 : k2 = 0
          · subst hm0
            have hms : ms = [] := List.length_eq_zero_iff.1 HML.out
            subst hms
            go_wp2_with (first
              | (go_at_call 13; refine (rdr_why wo.heap.size [] 0 _ Q1.out).mono ?_; rintro e w' ⟨rfl, rfl⟩)
              | (go_at_call 12; refine (rdr_left wo.heap.size [] 0 _ Q1.out).mono ?_; rintro e w' ⟨rfl, rfl⟩))
            go_ret
            exact ⟨ret_bool (show (strOfNums (numsL [])).toList.isEmpty = true by decide +kernel), hb⟩
          · obtain ⟨x, hx⟩ : ∃ x : Nat, (ig ms (k2 - 1)).toNat = x := ⟨_, rfl⟩
            have hlast : numsL ms = numsL (ms.take (k2 - 1)) ++ numL x := by
              have := nums_take1 (zs := ms) (k := k2 - 1) (by rw [HML.out]; omega)
              rw [show k2 - 1 + 1 = k2 by omega, hx, ← HML.out, List.take_length] at this
              rw [HML.out] at this; exact this
            have hlen0 := (len_num x).2
            have hnl : (numsL ms).length = (numsL (ms.take (k2 - 1))).length + (numL x).length := by rw [hlast, List.length_append]
            have hcut : (strOfNums (numsL ms)).extract 0 ((numsL ms).length - 1) = strOfNums (numsL (ms.take (k2 - 1)) ++ (numL x).take ((numL x).length - 1)) := by
              rw [str_extract, List.drop_zero, Nat.sub_zero, hnl, hlast, Nat.add_sub_assoc (by omega), List.take_length_add_append]
            have t2 : ((k2 : Int) == 0) = false := by simp; omega
            have t3 : (((numsL ms).length : Int) == 0) = false := by rw [beq_eq_false_iff_ne]; omega
            have HD : Bytes ((numL x).take ((numL x).length - 1)) := (bytes_num x).take _
            have hdl : ((numL x).take ((numL x).length - 1)).length ≤ 10 := by have := (len_num x).1; simp; omega
            have hshort := numOf_short x
            have HI : Hid ((ms.take (k2 - 1)).length = k2 - 1) := by show _ = _; rw [List.length_take, HML.out]; omega
            have HIG : Hid (∀ j, j < k2 - 1 → ∃ y : Nat, y < 18446744073709551616 ∧ ig (ms.take (k2 - 1)) j = y) := fun j hj => by
              obtain ⟨y, hy, hy64⟩ := word_nat (word_mixI (hz _ (ig_mem_ (k := j) (by rw [HL.out]; omega))))
              refine ⟨y, hy64, ?_⟩
              rw [← hy, ← HM.out j (by omega), ig, ig, List.getD_eq_getElem?_getD, List.getD_eq_getElem?_getD, List.getElem?_take, if_pos hj]
            obtain ⟨ns, hns⟩ : ∃ ns, ms.take (k2 - 1) = ns := ⟨_, rfl⟩
            obtain ⟨D, hD⟩ : ∃ D, (numL x).take ((numL x).length - 1) = D := ⟨_, rfl⟩
            rw [hD] at HD hdl hshort hcut
            rw [hns] at HI HIG hcut
            have hsl : (numsL ns).length ≤ 1000 := by have := len_nums ns; rw [HI.out] at this; omega
            have HS := Lib.hid hshort
            have HC := Lib.hid hcut
            have q1 := Q1.out
            have hpos : 1 ≤ (numsL ms).length := by omega
            clear hx hlast hlen0 hnl hns hD hshort hcut HML HM
            go_wp2_with fail
            refine (rdr_why wo.heap.size [] 0 _ q1).mono ?_
            rintro e w' ⟨rfl, rfl⟩
            go_wp2_with fail
            refine (rdr_left wo.heap.size [] 0 _ q1).mono ?_
            rintro e w' ⟨rfl, rfl⟩
            go_wp2_with fail
            rw [HC.out]
            refine (lit_new _ _).mono ?_
            rintro e wb ⟨rfl, hwb⟩
            have C1 : Hid (Cut wb wr.heap.size k2 0 ns D) := by
              show Cut _ _ _ _ _ _
              rw [← hwb]
              exact ⟨_, _, RdrAt.new wr _, fun _ => ⟨rfl, rfl⟩, fun h => absurd h.symm hm0⟩
            have B4 : Below w.heap.size w wb := by rw [← hwb]; exact hb.alloc hb.size _
            have hss2 := hb.size
            obtain ⟨wq, rfl⟩ : ∃ wq : World, wq = wr := ⟨_, rfl⟩
            clear hwb hb hm0 q1 Q1
            go_wp2_with fail
            go_loopw [69] (fun i wr => ∃ k3 : Nat, k3 ≤ k2 ∧ i = .int .i64 k3 ∧ Hid (Cut wr wq.heap.size k2 k3 ns D) ∧ Below w.heap.size w wr) (fun i _ => k2 - (intOf i).toNat)
            case atStart => exact ⟨0, Nat.zero_le _, rfl, C1, B4⟩
            case round =>
              clear C1 B4
              obtain ⟨k3, hk3, rfl, C1, hb⟩ := hrel
              by_cases hlt3 : k3 < k2
              · have hst := Cut.step C1.out hlt3 HI.out HIG.out HD hdl hm HS.out
                have hbz := hb.size
                go_wp2_with fail
                refine hst.mono ?_
                rintro e w5 ⟨x5, rfl, hcut, hg⟩
                have HCU := Lib.hid hcut
                have B5 := hb.trans (below_of_only hg hbz (by omega))
                clear hcut hg hst
                go_wp2
                go_roundw
                case rel => exact ⟨k3 + 1, by omega, by go_num, HCU, B5⟩
                case measure => simp [intOf]; omega
              · obtain rfl : k3 = k2 := by omega
                obtain ⟨l, wy, hrd, _, hwy⟩ := C1.out
                obtain rfl := hwy rfl
                go_wp2_with (go_at_call 13; refine (rdr_why _ _ _ _ hrd).mono ?_; rintro e w' ⟨rfl, rfl⟩)
                go_ret
                exact ⟨rfl, hb⟩
theorem topMixed_any (A : Option Addr) (m c : Nat) (zs : List Int) (hz : ∀ z ∈ zs, Word z) (w : World) (hr : Rd w w.heap.size A m (zs.map (.int .u64))) :
    Calls Try.prog 5 #[.slice A m c] w fun e w' => e = .returned (.bool true) ∧ Below w.heap.size w w' := by
  by_cases h : 100 < m
  · exact topMixed_out A m c w h
  · exact topMixed_walk A m c zs hz w hr (by omega)
end Go.Proofs.Ytlfblckniikdiaa
