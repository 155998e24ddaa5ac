/- Masks: their bits, by the program and by the document. -/
import Derived.Test.YtokgcjhlmohjgaaDoorTagU
import Derived.Test.YtokgcjhlmohjgaaDoorBitL
import Derived.Test.YtokgcjhlmohjgaaDoorBitR
namespace Go.Proofs.YtokgcjhlmohjgaaDoor
open Go.RowKit
/-- The places of a word's bits. -/
def mb (m : Nat) : List Int := lst m.testBit 64
theorem hasB_one {m : Nat} {n : Nat} (hm : m < 18446744073709551616) : hasB [(m : Int)] n = m.testBit n := by
  unfold hasB wg
  rcases Nat.lt_or_ge n 64 with q | q
  · rw [show n / 64 = 0 by omega, show n % 64 = n by omega]
    show ((m : Int).toNat).testBit n = _
    rw [Int.toNat_natCast]
  · have e : ig [(m : Int)] (n / 64) = 0 := by
      have : n / 64 = (n / 64 - 1) + 1 := by omega
      rw [this]; rfl
    rw [e]
    have : m.testBit n = false := Nat.testBit_lt_two_pow (Nat.lt_of_lt_of_le hm (by rw [show 18446744073709551616 = 2 ^ 64 by rfl]; exact Nat.pow_le_pow_right (by decide) q))
    rw [this]; simp
theorem list_one {m : Nat} (hm : m < 18446744073709551616) : listE [(m : Int)] = mb m := by
  unfold listE mb
  rw [lst_congr (q := m.testBit) fun n _ => hasB_one hm]
  exact lst_stop (by decide) fun n h1 _ => Nat.testBit_lt_two_pow (Nat.lt_of_lt_of_le hm (by rw [show 18446744073709551616 = 2 ^ 64 by rfl]; exact Nat.pow_le_pow_right (by decide) h1))
theorem mb_len (m : Nat) : (mb m).length ≤ 64 := lst_len _ _
set_option maxRecDepth 100000 in
theorem tag_bits (m : Nat) (hm : m < 18446744073709551616) (w : World) (hT : Tz w) :
    Calls Tryd.prog 18 #[.int .u64 m] w (RetL .i64 (mb m) w) := by
  have hb0 : Below w.heap.size w (w.alloc (.cells #[.int .u64 (m : Int)] 23)) := (Below.refl _ _).alloc (Nat.le_refl _) _
  have hrd : Rd (w.alloc (.cells #[.int .u64 (m : Int)] 23)) (w.alloc (.cells #[.int .u64 (m : Int)] 23)).heap.size (some ⟨w.heap.size, 0, none⟩) 1 ([(m : Int)].map (.int .u64)) :=
    IB.rd (g := w.heap.size) (t := 23) (cs := [(m : Int)]) ⟨[], by rw [heap_alloc_new]; simp⟩
  have hL := Lib.hid (bit_list (some ⟨w.heap.size, 0, none⟩) 1 1 [(m : Int)] _ hrd (fun z hz => by simp at hz; subst hz; exact word_of_nat hm) (Nat.le_refl _) (fun h => by cases h) (hT.below hb0))
  rw [list_one hm] at hL
  have HB := Lib.hid hb0
  clear hb0 hrd hT hm
  go_enter Tryd.func18, Tryd.ntmps18
  go_wp2_with fail
  refine hL.out.mono ?_
  rintro e w2 ⟨⟨A, c, rfl, hc, hr⟩, hb⟩
  go_wp2_with fail
  go_ret
  exact ⟨⟨A, c, rfl, hc, hr⟩, HB.out.trans (hb.mono HB.out.size)⟩
set_option maxRecDepth 100000 in
set_option maxHeartbeats 2000000 in
theorem ref_bits (m : Nat) (hm : m < 18446744073709551616) (w : World) :
    Calls Tryd.prog 19 #[.int .u64 m] w (RetL .i64 (mb m) w) := by
  have HM := Lib.hid hm
  clear hm
  go_enter Tryd.func19, Tryd.ntmps19
  go_wp2_with fail
  go_loopw [3, 4] (fun v i wr => ∃ (j n : Nat) (B : Option Addr) (d : Nat) (cs : List Int), j ≤ 64 ∧ n ≤ j ∧ i = .int .i64 j ∧ v = .slice B n d ∧ Hid (cs = lst m.testBit j) ∧ Hid (wr.ownsRow w.heap.size 3 1 (.slice B n d) n (cs.map (.int .i64))) ∧ Hid (Below w.heap.size w wr)) (fun _ i _ => 64 - (intOf i).toNat)
  case atStart => exact ⟨0, 0, none, 0, [], Nat.zero_le _, Nat.le_refl _, rfl, rfl, rfl, World.ownsRow_nil _ _ _ _, Below.refl _ _⟩
  case round =>
    obtain ⟨j, n, B, d, cs, hj, hn, rfl, rfl, hcs, hown, hb⟩ := hrel
    have hown' := hown.out
    have hsz := hb.out.size
    by_cases h1 : j < 64
    · have t1 : decide (j < 64) = true := by simp; omega
      have t1' : decide ((j : Int) < 64) = true := by simp; omega
      have HX : (bits .and .u64 ((m : Int) / 2 ^ j) 1 == 1) = m.testBit j := by
        rw [show (m : Int) / 2 ^ j = ((m / 2 ^ j : Nat) : Int) by simp, show (1 : Int) = ((1 : Nat) : Int) by rfl, u64_and_nat _ _ (Nat.lt_of_le_of_lt (Nat.div_le_self _ _) HM.out) (by decide), Nat.and_one_is_mod, Nat.testBit_eq_decide_div_mod_eq]
        rcases Nat.mod_two_eq_zero_or_one (m / 2 ^ j) with h | h <;> rw [h] <;> rfl
      have hsucc := lst_succ m.testBit j
      cases hh : m.testBit j with
      | false =>
        rw [hh] at HX hsucc
        have HS : Hid (cs = lst m.testBit (j + 1)) := by show _ = _; rw [hsucc, hcs.out]; simp
        clear hh hsucc
        go_wp2_with fail
        go_roundw
        case rel => exact ⟨j + 1, n, B, d, cs, by omega, by omega, by go_num, rfl, HS, hown, hb⟩
        case measure => simp [intOf]; omega
      | true =>
        rw [hh] at HX hsucc
        have HS : Hid (cs ++ [(j : Int)] = lst m.testBit (j + 1)) := by show _ = _; rw [hsucc, hcs.out]; simp
        clear hh hsucc
        go_wp2_with (at_builtin; refine wpList_push rfl (.tmp 15) (.tmp 17) _ rfl w.heap.size 3 .i64 8 (by decide) Tryd.underlying36 info_int wr B n d cs _ rfl hown' rfl (by omega) hsz ?_; intro g' c' w' hown2 hb2)
        have HB2 := Lib.hid (hb.out.trans hb2)
        have HO2 := Lib.hid hown2
        go_roundw
        case rel => exact ⟨j + 1, n + 1, _, c', _, by omega, by omega, by go_num, rfl, HS, HO2, HB2⟩
        case measure => simp [intOf]; omega
    · obtain rfl : j = 64 := by omega
      have hl : cs = mb m := hcs.out
      have hn2 := own_len hown'
      have hcap := own_cap hown'
      have hrd := Rd.of_own hown'
      rw [hl] at hn2 hrd
      clear hown' hsz
      go_wp2_with fail
      go_ret
      rw [← hn2] at hrd hcap ⊢
      exact ⟨⟨B, d, rfl, hcap, hrd⟩, hb.out⟩
end Go.Proofs.YtokgcjhlmohjgaaDoor
