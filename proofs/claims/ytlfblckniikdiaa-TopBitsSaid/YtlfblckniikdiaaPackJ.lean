/- Walks of package pack and of its reference: the word of parts. -/
import Derived.Test.YtlfblckniikdiaaPackF
namespace Go.Proofs.Ytlfblckniikdiaa
open Go.RowKit
/-- The word of parts, and why there is none. -/
def joinE (ls ws : List Int) : Int × Int := if wideF ws 64 then (if ls.length = ws.length then (match joinF 0 0 ls ws with | some x => ((x : Int), 0) | none => (0, 6)) else (0, 7)) else (0, 6)
theorem joinE_bad {ls ws : List Int} (h : wideF ws 64 = false) : joinE ls ws = (0, 6) := by unfold joinE; rw [h]; rfl
theorem joinE_len {ls ws : List Int} (h : wideF ws 64 = true) (hl : ls.length ≠ ws.length) : joinE ls ws = (0, 7) := by unfold joinE; rw [h, if_pos rfl, if_neg hl]
theorem joinE_none {ls ws : List Int} (h : wideF ws 64 = true) (hl : ls.length = ws.length) (hj : joinF 0 0 ls ws = none) : joinE ls ws = (0, 6) := by unfold joinE; rw [h, if_pos rfl, if_pos hl, hj]
theorem joinE_some {ls ws : List Int} {x : Nat} (h : wideF ws 64 = true) (hl : ls.length = ws.length) (hj : joinF 0 0 ls ws = some x) : joinE ls ws = ((x : Int), 0) := by unfold joinE; rw [h, if_pos rfl, if_pos hl, hj]
theorem join_bd {u at_ x n : Nat} (hu : u < 2 ^ at_) (hx : x < 2 ^ n) : u + x * 2 ^ at_ < 2 ^ (at_ + n) := by
  rw [Nat.pow_add]
  have : (x + 1) * 2 ^ at_ ≤ 2 ^ n * 2 ^ at_ := Nat.mul_le_mul_right _ hx
  rw [Nat.add_mul, Nat.one_mul, Nat.mul_comm (2 ^ n)] at this
  omega
theorem pow_le64 {a : Nat} (h : a ≤ 64) : 2 ^ a ≤ 18446744073709551616 := Nat.pow_le_pow_right (n := 2) (by decide) h
theorem join_or {u at_ x n : Nat} (hu : u < 2 ^ at_) (hx : x < 2 ^ n) (h : at_ + n ≤ 64) :
    bits .or .u64 (u : Int) (IntKind.u64.wrap ((x : Int) * 2 ^ at_)) = ((u + x * 2 ^ at_ : Nat) : Int) := by
  have h64 := Nat.lt_of_lt_of_le (join_bd hu hx) (pow_le64 h)
  have e : ((x : Int) * 2 ^ at_) = ((x * 2 ^ at_ : Nat) : Int) := by simp
  rw [e, wrap_nat, Nat.mod_eq_of_lt (by omega), u64_or_nat _ _ (by omega) (by omega)]
  congr 1
  rw [Nat.or_comm, nat_join at_ _ _ (by simp) hu]
  omega
theorem join_add {u at_ x n : Nat} (hu : u < 2 ^ at_) (hx : x < 2 ^ n) (h : at_ + n ≤ 64) :
    IntKind.u64.wrap ((u : Int) + IntKind.u64.wrap ((x : Int) * 2 ^ at_)) = ((u + x * 2 ^ at_ : Nat) : Int) := by
  have h64 := Nat.lt_of_lt_of_le (join_bd hu hx) (pow_le64 h)
  have e : ((x : Int) * 2 ^ at_) = ((x * 2 ^ at_ : Nat) : Int) := by simp
  rw [e, wrap_nat, Nat.mod_eq_of_lt (by omega : x * 2 ^ at_ < 18446744073709551616), show (u : Int) + ((x * 2 ^ at_ : Nat) : Int) = ((u + x * 2 ^ at_ : Nat) : Int) by simp, wrap_nat, Nat.mod_eq_of_lt h64]
/-- A call that leaves the world alone, met in a quiet region behind earlier draws. -/
theorem quiet_eq2 {P : Program} {f : FuncId} {args : Array Value} {w : World} {q n : Nat} {v : Value}
    (h : Calls P f args (w.drewN (q + n)) fun e w' => e = .returned v ∧ w.drewN (q + n) = w') : Calls P f args (w.drewN (q + n)) fun e w'' => e = .returned v ∧ ∃ m, w'' = w.drewN (q + m) :=
  h.mono fun _ _ ⟨he, hm⟩ => ⟨he, n, hm.symm⟩
set_option maxRecDepth 100000 in
set_option maxHeartbeats 2000000 in
theorem pack_join (A : Option Addr) (m c : Nat) (ls : List Int) (hls : ∀ z ∈ ls, Word z) (A' : Option Addr) (m' c' : Nat) (zs : List Int) (w : World)
    (hr : Rd w w.heap.size A m (ls.map (.int .u64))) (hr' : Rd w w.heap.size A' m' (zs.map (.int .i64))) (hm : m ≤ 100) (hm' : m' ≤ 100) :
    Calls Try.prog 24 #[.slice A m c, .slice A' m' c'] w fun e w' => e = .returned (.tuple #[.int .u64 (joinE ls zs).1, .int .i64 (joinE ls zs).2]) ∧ ∃ q, w' = w.drewN q := by
  have hwid := pack_wide A' m' c' zs w hr' hm'
  have HR := Lib.hid hr
  have HL := Lib.hid hr.lenI
  have HR' := Lib.hid hr'
  have HL' := Lib.hid hr'.lenI
  clear hr hr'
  cases hw : wideF zs 64 with
  | false =>
    rw [hw] at hwid
    rw [joinE_bad hw]
    clear hw
    go_enter Try.func24, Try.ntmps24
    go_wp2_with (go_at_call 33; refine hwid.mono ?_; rintro e w' ⟨rfl, rfl⟩)
    refine bodyPost_ret (v := .tuple #[.int .u64 0, .int .i64 6]) (by simp [results, Try.results24, go_sem]) rfl ⟨rfl, 0, rfl⟩
  | true =>
    rw [hw] at hwid
    by_cases hmm : m = m'
    · subst hmm
      have hll : ls.length = zs.length := by rw [HL.out, HL'.out]
      have HN : Hid (joinF 0 0 ls zs = none → joinE ls zs = (0, 6)) := joinE_none hw hll
      have HS : Hid (∀ x, joinF 0 0 ls zs = some x → joinE ls zs = ((x : Int), 0)) := fun x => joinE_some hw hll
      have HW := Lib.hid hw
      clear hw
      go_enter Try.func24, Try.ntmps24
      go_wp2_with (go_at_call 33; refine hwid.mono ?_; rintro e w' ⟨rfl, rfl⟩)
      clear hwid
      go_loopw [6, 7, 22] (fun x y i wr => ∃ (u at_ k : Nat), k ≤ m ∧ at_ ≤ 64 ∧ x = .int .u64 u ∧ y = .int .i64 at_ ∧ i = .int .i64 k ∧ Hid (u < 2 ^ at_) ∧ Hid (wideF (zs.drop k) ((64 - at_ : Nat) : Int) = true) ∧ Hid (joinF u at_ (ls.drop k) (zs.drop k) = joinF 0 0 ls zs) ∧ ∃ q, wr = w.drewN q) (fun _ _ i _ => m - (intOf i).toNat)
      case atStart => exact ⟨0, 0, 0, Nat.zero_le _, by decide, rfl, rfl, rfl, (by decide : 0 < 2 ^ 0), HW.out, rfl, 0, rfl⟩
      case round =>
        obtain ⟨u, at_, k, hk, hat, rfl, rfl, rfl, hu, hwd, hf, q, rfl⟩ := hrel
        by_cases hlt : k < m
        · obtain ⟨b, o, rfl, hb0, hc⟩ := HR'.out.atI hlt
          obtain ⟨b', o', rfl, hb0', hc'⟩ := HR.out.atI hlt
          have hkl : k < ls.length := by rw [HL.out]; exact hlt
          have HD := Lib.hid (drop_ig (l := zs) (k := k) (by rw [HL'.out]; exact hlt))
          have HD' := Lib.hid (drop_ig hkl)
          have hwd2 := hwd.out
          rw [HD.out] at hwd2
          obtain ⟨n, hzn, hn0, hnl, hwd3⟩ := wide_step hwd2
          obtain ⟨x, hx, hx64⟩ := word_nat (hls (ig ls k) (by rw [ig, List.getD_eq_getElem?_getD, List.getElem?_eq_getElem hkl]; exact List.getElem_mem hkl))
          rw [hzn] at hc
          rw [hx] at hc'
          have HJ : Hid (joinF 0 0 ls zs = if x < 2 ^ n then joinF (u + x * 2 ^ at_) (at_ + n) (ls.drop (k + 1)) (zs.drop (k + 1)) else none) := by
            show _ = _
            rw [← hf.out, HD.out, HD'.out, hzn, hx]; rfl
          have HWD : Hid (wideF (zs.drop (k + 1)) ((64 - (at_ + n) : Nat) : Int) = true) := by show _ = _; rw [show 64 - (at_ + n) = 64 - at_ - n by omega]; exact hwd3
          have hn64 : n ≤ 64 := by omega
          clear hwd2 hwd3 hzn hx
          by_cases hxn : x < 2 ^ n
          · have hne : ((x : Int) % 2 ^ n != (x : Int)) = false := by rw [show (x : Int) % 2 ^ n = ((x % 2 ^ n : Nat) : Int) by simp, Nat.mod_eq_of_lt hxn]; simp
            have HJ2 : Hid (joinF (u + x * 2 ^ at_) (at_ + n) (ls.drop (k + 1)) (zs.drop (k + 1)) = joinF 0 0 ls zs) := by show _ = _; rw [HJ.out, if_pos hxn]
            have hor := join_or hu.out hxn (show at_ + n ≤ 64 by omega)
            have HU := Lib.hid (join_bd hu.out hxn)
            obtain ⟨y, hy⟩ : ∃ y, u + x * 2 ^ at_ = y := ⟨_, rfl⟩
            rw [hy] at hor HJ2 HU
            clear hxn hy
            go_wp2
            go_quiet ((go_at_call 34; exact quiet_eq2 (pack_low x n hn64 _)))
            go_wp2
            go_roundw
            case rel => exact ⟨y, at_ + n, k + 1, by omega, by omega, by first | rfl | rw [hor], by go_num, by go_num, HU.out, HWD.out, HJ2.out, _, rfl⟩
            case measure => simp [intOf]; omega
          · have hne : ((x : Int) % 2 ^ n != (x : Int)) = true := by
              have : x % 2 ^ n < 2 ^ n := Nat.mod_lt _ (Nat.two_pow_pos n)
              rw [show (x : Int) % 2 ^ n = ((x % 2 ^ n : Nat) : Int) by simp, bne_iff_ne]
              omega
            have hj := Lib.hid (HN.out (by rw [HJ.out, if_neg hxn]))
            clear hxn
            go_wp2
            go_quiet ((go_at_call 34; exact quiet_eq2 (pack_low x n hn64 _)))
            go_wp2
            refine bodyPost_ret (v := .tuple #[.int .u64 0, .int .i64 6]) (by simp [results, Try.results24, go_sem]) rfl ⟨by rw [hj.out], _, World.drewN_drewN ..⟩
        · have hj := Lib.hid <| HS.out u (by rw [← hf.out, List.drop_of_length_le (by have := HL.out; omega)]; rfl)
          go_wp2
          refine bodyPost_ret (v := .tuple #[.int .u64 u, .int .i64 0]) (by simp [results, Try.results24, go_sem]) rfl ⟨by rw [hj.out], _, rfl⟩
    · have hne : ((m : Int) != m') = true := by simp; omega
      rw [joinE_len hw (by rw [HL.out, HL'.out]; exact hmm)]
      clear hw hmm
      go_enter Try.func24, Try.ntmps24
      go_wp2_with (go_at_call 33; refine hwid.mono ?_; rintro e w' ⟨rfl, rfl⟩)
      refine bodyPost_ret (v := .tuple #[.int .u64 0, .int .i64 7]) (by simp [results, Try.results24, go_sem]) rfl ⟨rfl, 0, rfl⟩
end Go.Proofs.Ytlfblckniikdiaa
