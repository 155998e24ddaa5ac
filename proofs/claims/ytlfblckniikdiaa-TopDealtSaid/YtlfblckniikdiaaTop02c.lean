/- Walk of the law TopDealt. -/
import Derived.Test.YtlfblckniikdiaaTop02
import Derived.Test.YtlfblckniikdiaaLaw03c
namespace Go.Proofs.Ytlfblckniikdiaa
open Go.RowKit
/-- The first k places of an order undone. -/
def Und (q k : Nat) (ls cs : List Int) : Prop := cs.length = q ∧ ∀ j, j < k → ig cs (ig ls j).toNat = j
theorem Und.step {q k x : Nat} {ls cs : List Int} (h : Und q k ls cs) (hp : PermOK q ls) (hk : k < q) (hx : ig ls k = x) : Und q (k + 1) ls (cs.set x k) := by
  obtain ⟨h1, h2⟩ := h
  obtain ⟨p1, p2, p3⟩ := hp
  have hb := p2 k hk
  refine ⟨by rw [List.length_set]; exact h1, fun j hj => ?_⟩
  rw [ig_set (by omega)]
  split
  · rename_i he
    have := p2 j (by omega)
    have : ig ls j = ig ls k := by omega
    rw [p3 j k (by omega) hk this]
  · rename_i he
    rcases Nat.lt_or_ge j k with q1 | q1
    · exact h2 j q1
    · obtain rfl : j = k := by omega
      rw [hx] at he; simp at he
set_option maxRecDepth 100000 in
set_option maxHeartbeats 4000000 in
theorem topDealt_walk (seed n : Int) (w : World) :
    Calls Try.prog 3 #[.int .u64 seed, .int .i64 n] w fun e w' => e = .returned (.bool true) ∧ Below w.heap.size w w' := by
  have hss := strOfNums_size
  have hap := str_append
  have hk3 : (ByteArray.mk #[]) = strOfNums [] := by decide +kernel
  obtain ⟨q, hq⟩ : ∃ q : Nat, min (max n 0) 4096 = (q : Int) := ⟨permLen n, by unfold permLen; omega⟩
  have hq' : permLen n = q := by unfold permLen; omega
  have hq4 : q ≤ 4096 := by omega
  have hpk := permOK_perm seed q
  have hrp := fun w => rng_perm seed n w
  rw [hq'] at hrp
  obtain ⟨ls, hls⟩ : ∃ ls, permI seed q = ls := ⟨_, rfl⟩
  rw [hls] at hrp hpk
  have HP := Lib.hid hpk
  have HL : Hid (ls.length = q) := hpk.1
  have HV : Hid (∀ k, k < q → ∃ x : Nat, ig ls k = x ∧ x < q) := fun k hk => by
    have := hpk.2.1 k hk
    exact ⟨(ig ls k).toNat, by omega, by omega⟩
  have hnq : ((ls.length : Int) != min (max n 0) 4096) = false := by rw [hq, HL.out]; simp
  have hmk := fun (kl kc : IntKind) => run_make_row' (P := Try.prog) 24 3 (.int .i64 0) 8 Try.underlying24 info_int rfl kl kc q (by omega) (by omega)
  have HMK := Lib.hid hmk
  clear hq hq' hls hpk hmk
  go_enter Try.func3, Try.ntmps3
  go_wp2_with (go_at_call 7; refine (begins2_any _).mono ?_; rintro e w1 ⟨rfl, hb1⟩)
  refine (hrp _).mono ?_
  rintro e w2 ⟨⟨A, c, rfl, hc, hd⟩, hb2⟩
  have B2 := hb1.trans (hb2.mono hb1.size)
  rw [HL.out] at hc hd hnq ⊢
  have HD := Lib.hid hd
  clear hb1 hb2 hd hrp
  go_wp2_with fail
  go_loopw [6, 28] (fun v i wr => ∃ k : Nat, k ≤ q ∧ i = .int .i64 k ∧ v = .string (strOfNums (numsL (ls.take k))) ∧ Below w.heap.size w wr ∧ Hid (Below w2.heap.size w2 wr)) (fun _ i _ => q - (intOf i).toNat)
  case atStart => exact ⟨0, Nat.zero_le _, rfl, rfl, B2, Below.refl _ _⟩
  case round =>
    clear B2
    obtain ⟨k, hk, rfl, rfl, hb, hb'⟩ := hrel
    by_cases hlt : k < q
    · obtain ⟨b, o, rfl, hbl0, hc0⟩ := HD.out.atI hlt
      have hc := (hb'.out.cell (p := ⟨b, o + k, none⟩) hbl0).trans hc0
      obtain ⟨x, hx, hx64⟩ := HV.out k hlt
      have HT : Hid (numsL (ls.take (k + 1)) = numsL (ls.take k) ++ numL x) := by
        have := nums_take1 (zs := ls) (k := k) (by rw [HL.out]; exact hlt)
        rw [hx] at this; exact this
      rw [hx] at hc
      have hl1 : (numsL (ls.take k)).length ≤ 40960 := by have := len_nums (ls.take k); simp at this; omega
      have hl2 := (len_num x).1
      clear hx hc0
      go_wp2_with (go_at_call 9; refine (lit_num x (by omega) _).mono ?_; rintro e w3 ⟨rfl, hb3⟩)
      go_roundw
      case rel => exact ⟨k + 1, by omega, by go_num, by rw [HT.out], hb.trans (hb3.mono hb.size), hb'.out.trans (hb3.mono hb'.out.size)⟩
      case measure => simp [intOf]; omega
    · obtain rfl : k = q := by omega
      have hall : ls.take k = ls := by rw [← HL.out, List.take_length]
      rw [hall]
      have hlz : (numsL ls).length ≤ 40960 := by have := len_nums ls; rw [HL.out] at this; omega
      clear hall
      obtain ⟨wo, rfl⟩ : ∃ wo : World, wo = wr := ⟨_, rfl⟩
      go_wp2_with fail
      refine (lit_new (numsL ls) _).mono ?_
      rintro e wa ⟨rfl, hwa⟩
      have Q1 : RdrAt wa wo.heap.size (numsL (ls.drop 0)) 0 := by rw [← hwa]; exact RdrAt.new wo _
      have B1 : Below w.heap.size w wa := by rw [← hwa]; exact hb.alloc hb.size _
      have B2 : Below w2.heap.size w2 wa := by rw [← hwa]; exact hb'.out.alloc hb'.out.size _
      have hsz0 := hb.size
      have hsz1 := hb'.out.size
      have hsz2 : wo.heap.size < wa.heap.size := by rw [← hwa]; simp
      have hmk := HMK.out
      clear hwa hb hb' hk3 hap
      go_wp2_with fail
      have I0 := IB.made wa 3 k .i64
      have B3 := B1.alloc B1.size (.cells (madeCells #[.int .i64 0] k) 3)
      have B4 := B2.alloc B2.size (.cells (madeCells #[.int .i64 0] k) 3)
      have Q2 : RdrAt (wa.alloc (.cells (madeCells #[.int .i64 0] k) 3)) wo.heap.size (numsL (ls.drop 0)) 0 := (Below.heap_alloc wa _ _ Q1.lt).trans Q1
      obtain ⟨wb, hwb⟩ : ∃ wb, wa.alloc (.cells (madeCells #[.int .i64 0] k) 3) = wb := ⟨_, rfl⟩
      rw [hwb] at I0 B3 B4 Q2 ⊢
      have HI := Lib.hid I0
      have HB3 := Lib.hid B3
      have HB4 := Lib.hid B4
      have HQ2 := Lib.hid Q2
      clear hwb Q1 Q2 B1 B2 B3 B4 I0 hmk
      go_loopw [47] (fun i wr => ∃ (k2 : Nat) (cs : List Int), k2 ≤ k ∧ i = .int .i64 k2 ∧ Hid (RdrAt wr wo.heap.size (numsL (ls.drop k2)) 0) ∧ Hid (IB wr wa.heap.size 3 .i64 cs) ∧ Hid (Und k k2 ls cs) ∧ Hid (Below w.heap.size w wr) ∧ Hid (Below w2.heap.size w2 wr)) (fun i _ => k - (intOf i).toNat)
      case atStart => exact ⟨0, _, Nat.zero_le _, rfl, HQ2, HI, ⟨List.length_replicate, fun j hj => by omega⟩, HB3, HB4⟩
      case round =>
        clear HI HB3 HB4 HQ2
        obtain ⟨k2, cs, hk2, rfl, Q, I, U, hb, hb'⟩ := hrel
        have hu := U.out
        by_cases hlt2 : k2 < k
        · obtain ⟨b, o, rfl, hbl0, hc0⟩ := HD.out.atI hlt2
          have hkl : k2 < ls.length := by rw [HL.out]; exact hlt2
          obtain ⟨x, hx, hx64⟩ := HV.out k2 hlt2
          have HU := Lib.hid (Und.step hu HP.out hlt2 hx)
          have HDR : numsL (ls.drop k2) = numL x ++ numsL (ls.drop (k2 + 1)) := by
            have := nums_drop1 hkl
            rw [hx] at this; exact this
          have q1 := Q.out
          rw [HDR] at q1
          have HY : Bytes (numL x ++ numsL (ls.drop (k2 + 1))) := (bytes_num x).append (bytes_nums _)
          have HZ : (numL x ++ numsL (ls.drop (k2 + 1))).length ≤ 9223372036854775807 := by
            have h1 := (len_num x).1
            have h2 := len_nums (ls.drop (k2 + 1))
            rw [List.length_drop, HL.out] at h2
            rw [List.length_append]; omega
          have hbz := hb.out.size
          have hbz' := hb'.out.size
          have hxc : x < cs.length := by rw [hu.1]; exact hx64
          rw [hx] at hc0
          clear hx HDR hu
          go_wp2_with fail
          refine (rdr_num wo.heap.size _ HY HZ _ q1 x (numL x).length 0 (numOf_num x (by omega) _)).mono ?_
          rw [List.drop_left]
          rintro e w5 ⟨rfl, R2, G2⟩
          have B2 := hb.out.trans (below_of_only G2 hbz (by omega))
          have B3 := hb'.out.trans (below_of_only G2 hbz' (by omega))
          have hc2 := (B3.cell (p := ⟨b, o + k2, none⟩) hbl0).trans hc0
          obtain ⟨rest, hI⟩ := I.out
          have I2 : IB w5 wa.heap.size 3 .i64 cs := ⟨rest, (G2.block _ I.out.lt (by intro e; injection e with e; omega)).trans hI⟩
          have hfz := I2.frozen x
          have hcl := I2.cell hxc
          have I3 := Lib.hid (I2.set_ hxc k2)
          have B4 := Lib.hid (B2.setCell (p := ⟨wa.heap.size, x, none⟩) (by show _ ≤ wa.heap.size; omega) (.int .i64 k2))
          have B5 := Lib.hid (B3.setCell (p := ⟨wa.heap.size, x, none⟩) (by show _ ≤ wa.heap.size; omega) (.int .i64 k2))
          have R3 : Hid (RdrAt (w5.setCell ⟨wa.heap.size, x, none⟩ (.int .i64 k2)) wo.heap.size (numsL (ls.drop (k2 + 1))) 0) := (Below.heap_setCell w5 ⟨wa.heap.size, x, none⟩ _ _ (by show wo.heap.size ≠ wa.heap.size; omega)).trans R2
          clear q1 R2 G2 hc0 B2 B3 hI I2
          go_wp2
          go_roundw
          case rel => exact ⟨k2 + 1, _, by omega, by go_num, R3, I3, HU, B4, B5⟩
          case measure => simp [intOf]; omega
        · obtain rfl : k2 = k := by omega
          have hall : ls.drop k2 = [] := by rw [← HL.out, List.drop_length]
          rw [hall] at Q
          clear hall
          have hcl : cs.length = k2 := hu.1
          have HCL := Lib.hid hcl
          clear hcl hu
          go_wp2_with fail
          go_loop [73] (fun i => ∃ k3 : Nat, k3 ≤ k2 ∧ i = .int .i64 k3) (fun i => k2 - (intOf i).toNat)
          case atStart => exact ⟨0, Nat.zero_le _, rfl⟩
          case round =>
            obtain ⟨k3, hk3, rfl⟩ := hrel
            by_cases hlt3 : k3 < k2
            · obtain ⟨b, o, rfl, hbl0, hc0⟩ := HD.out.atI hlt3
              obtain ⟨x, hx, hx64⟩ := HV.out k3 hlt3
              have hc2 := (hb'.out.cell (p := ⟨b, o + k3, none⟩) hbl0).trans hc0
              have hcb := I.out.cell (k := x) (by rw [HCL.out]; exact hx64)
              have hiu := U.out.2 k3 hlt3
              rw [hx, Int.toNat_natCast] at hiu
              rw [hx] at hc2
              rw [hiu] at hcb
              clear hx hiu hc0
              go_wp2
              go_round
              case rel => exact ⟨k3 + 1, by omega, by go_num⟩
              case measure => simp [intOf]; omega
            · have hQ : RdrAt wr wo.heap.size [] 0 := Q.out
              go_wp2_with (first
                | (go_at_call 13; refine (rdr_why wo.heap.size [] 0 _ hQ).mono ?_; rintro e w' ⟨rfl, rfl⟩)
                | (go_at_call 12; refine (rdr_left wo.heap.size [] 0 _ hQ).mono ?_; rintro e w' ⟨rfl, rfl⟩))
              go_ret
              exact ⟨rfl, hb.out⟩
end Go.Proofs.Ytlfblckniikdiaa
