/- Walk of the reference: the word of parts. -/
import Derived.Test.YtknnalaemndnaaaPackJ
namespace Go.Proofs.Ytknnalaemndnaaa
open Go.RowKit
set_option maxRecDepth 100000 in
set_option maxHeartbeats 2000000 in
theorem ref_join (A : Option Addr) (m c : Nat) (ls : List Int) (hls : ∀ z ∈ ls, Word z) (A' : Option Addr) (m' c' : Nat) (zs : List Int) (w : World)
    (hr : Rd w w.heap.size A m (ls.map (.int .u64))) (hr' : Rd w w.heap.size A' m' (zs.map (.int .i64))) (hm : m ≤ 100) (hm' : m' ≤ 100) :
    Calls Try.prog 44 #[.slice A m c, .slice A' m' c'] w fun e w' => e = .returned (.tuple #[.int .u64 (joinE ls zs).1, .int .i64 (joinE ls zs).2]) ∧ w = w' := by
  have hwid := ref_widths A' m' c' zs w hr' hm'
  have HR := Lib.hid hr
  have HL := Lib.hid hr.lenI
  have HR' := Lib.hid hr'
  have HL' := Lib.hid hr'.lenI
  clear hr hr'
  cases hw : wideF zs 64 with
  | false =>
    rw [hw] at hwid
    rw [joinE_bad hw]
    clear hw
    go_enter Try.func44, Try.ntmps44
    go_wp2_with (go_at_call 91; refine hwid.mono ?_; rintro e w' ⟨rfl, rfl⟩)
    refine bodyPost_ret (v := .tuple #[.int .u64 0, .int .i64 6]) (by simp [results, Try.results44, go_sem]) rfl ⟨rfl, rfl⟩
  | true =>
    rw [hw] at hwid
    by_cases hmm : m = m'
    · subst hmm
      have hll : ls.length = zs.length := by rw [HL.out, HL'.out]
      have HN : Hid (joinF 0 0 ls zs = none → joinE ls zs = (0, 6)) := joinE_none hw hll
      have HS : Hid (∀ x, joinF 0 0 ls zs = some x → joinE ls zs = ((x : Int), 0)) := fun x => joinE_some hw hll
      have HW := Lib.hid hw
      clear hw
      go_enter Try.func44, Try.ntmps44
      go_wp2_with (go_at_call 91; refine hwid.mono ?_; rintro e w' ⟨rfl, rfl⟩)
      clear hwid
      go_loop [6, 7, 20] (fun x y i => ∃ (u at_ k : Nat), k ≤ m ∧ at_ ≤ 64 ∧ x = .int .u64 u ∧ y = .int .i64 at_ ∧ i = .int .i64 k ∧ Hid (u < 2 ^ at_) ∧ Hid (wideF (zs.drop k) ((64 - at_ : Nat) : Int) = true) ∧ Hid (joinF u at_ (ls.drop k) (zs.drop k) = joinF 0 0 ls zs)) (fun _ _ i => m - (intOf i).toNat)
      case atStart => exact ⟨0, 0, 0, Nat.zero_le _, by decide, rfl, rfl, rfl, (by decide : 0 < 2 ^ 0), HW.out, rfl⟩
      case round =>
        obtain ⟨u, at_, k, hk, hat, rfl, rfl, rfl, hu, hwd, hf⟩ := hrel
        by_cases hlt : k < m
        · obtain ⟨b, o, rfl, hb0, hc⟩ := HR'.out.atI hlt
          obtain ⟨b', o', rfl, hb0', hc'⟩ := HR.out.atI hlt
          have hkl : k < ls.length := by rw [HL.out]; exact hlt
          have HD := Lib.hid (drop_ig (l := zs) (k := k) (by rw [HL'.out]; exact hlt))
          have HD' := Lib.hid (drop_ig hkl)
          have hwd2 := hwd.out
          rw [HD.out] at hwd2
          obtain ⟨n, hzn, hn0, hnl, hwd3⟩ := wide_step hwd2
          obtain ⟨x, hx, hx64⟩ := word_nat (hls (ig ls k) (by rw [ig, List.getD_eq_getElem?_getD, List.getElem?_eq_getElem hkl]; exact List.getElem_mem hkl))
          rw [hzn] at hc
          rw [hx] at hc'
          have HJ : Hid (joinF 0 0 ls zs = if x < 2 ^ n then joinF (u + x * 2 ^ at_) (at_ + n) (ls.drop (k + 1)) (zs.drop (k + 1)) else none) := by
            show _ = _
            rw [← hf.out, HD.out, HD'.out, hzn, hx]; rfl
          have HWD : Hid (wideF (zs.drop (k + 1)) ((64 - (at_ + n) : Nat) : Int) = true) := by show _ = _; rw [show 64 - (at_ + n) = 64 - at_ - n by omega]; exact hwd3
          have hn64 : n ≤ 64 := by omega
          clear hwd2 hwd3 hzn hx
          by_cases hxn : x < 2 ^ n
          · have hne : ((x : Int) % 2 ^ n != (x : Int)) = false := by rw [show (x : Int) % 2 ^ n = ((x % 2 ^ n : Nat) : Int) by simp, Nat.mod_eq_of_lt hxn]; simp
            have HJ2 : Hid (joinF (u + x * 2 ^ at_) (at_ + n) (ls.drop (k + 1)) (zs.drop (k + 1)) = joinF 0 0 ls zs) := by show _ = _; rw [HJ.out, if_pos hxn]
            have hor := join_add hu.out hxn (show at_ + n ≤ 64 by omega)
            have HU := Lib.hid (join_bd hu.out hxn)
            obtain ⟨y, hy⟩ : ∃ y, u + x * 2 ^ at_ = y := ⟨_, rfl⟩
            rw [hy] at hor HJ2 HU
            clear hxn hy
            go_wp2_with (go_at_call 92; refine (ref_part x 0 n hx64 (by omega) _).mono ?_; rw [Nat.pow_zero, Nat.div_one]; rintro e w' ⟨rfl, rfl⟩)
            go_round
            case rel => exact ⟨y, at_ + n, k + 1, by omega, by omega, by first | rfl | rw [hor], by go_num, by go_num, HU.out, HWD.out, HJ2.out⟩
            case measure => simp [intOf]; omega
          · have hne : ((x : Int) % 2 ^ n != (x : Int)) = true := by
              have : x % 2 ^ n < 2 ^ n := Nat.mod_lt _ (Nat.two_pow_pos n)
              rw [show (x : Int) % 2 ^ n = ((x % 2 ^ n : Nat) : Int) by simp, bne_iff_ne]
              omega
            have hj := Lib.hid (HN.out (by rw [HJ.out, if_neg hxn]))
            clear hxn
            go_wp2_with (go_at_call 92; refine (ref_part x 0 n hx64 (by omega) _).mono ?_; rw [Nat.pow_zero, Nat.div_one]; rintro e w' ⟨rfl, rfl⟩)
            refine bodyPost_ret (v := .tuple #[.int .u64 0, .int .i64 6]) (by simp [results, Try.results44, go_sem]) rfl ⟨by rw [hj.out], rfl⟩
        · have hj := Lib.hid <| HS.out u (by rw [← hf.out, List.drop_of_length_le (by have := HL.out; omega)]; rfl)
          go_wp2
          refine bodyPost_ret (v := .tuple #[.int .u64 u, .int .i64 0]) (by simp [results, Try.results44, go_sem]) rfl ⟨by rw [hj.out], rfl⟩
    · have hne : ((m : Int) != m') = true := by simp; omega
      rw [joinE_len hw (by rw [HL.out, HL'.out]; exact hmm)]
      clear hw hmm
      go_enter Try.func44, Try.ntmps44
      go_wp2_with (go_at_call 91; refine hwid.mono ?_; rintro e w' ⟨rfl, rfl⟩)
      refine bodyPost_ret (v := .tuple #[.int .u64 0, .int .i64 7]) (by simp [results, Try.results44, go_sem]) rfl ⟨rfl, rfl⟩
end Go.Proofs.Ytknnalaemndnaaa
