/- Walk of bitset.Next: the least number of a set from a number on. -/
import Derived.Test.YtknnalaemndnaaaDoorBitL
namespace Go.Proofs.YtknnalaemndnaaaDoor
open Go.RowKit
/-- The least number that has p, from n on; none. -/
def NextOK (p : Nat → Bool) (n : Int) (x : Int) (is : Bool) : Prop :=
  (∃ y : Nat, x = y ∧ is = true ∧ y < 4096 ∧ p y = true ∧ n ≤ y ∧ ∀ z : Nat, z < y → n ≤ z → p z = false) ∨ (x = 0 ∧ is = false ∧ ∀ z : Nat, z < 4096 → n ≤ z → p z = false)
theorem next_one {p : Nat → Bool} {n x x' : Int} {is is' : Bool} (h : NextOK p n x is) (h' : NextOK p n x' is') : x = x' ∧ is = is' := by
  rcases h with ⟨y, rfl, rfl, h1, h2, h3, h4⟩ | ⟨rfl, rfl, h1⟩ <;> rcases h' with ⟨y', rfl, rfl, g1, g2, g3, g4⟩ | ⟨rfl, rfl, g1⟩
  · refine ⟨?_, rfl⟩
    rcases Nat.lt_trichotomy y y' with q | q | q
    · have := g4 y q h3; rw [h2] at this; cases this
    · rw [q]
    · have := h4 y' q g3; rw [g2] at this; cases this
  · have := g1 y h1 h3; rw [h2] at this; cases this
  · have := h1 y' g1 g3; rw [g2] at this; cases this
  · exact ⟨rfl, rfl⟩
def NextRet (p : Nat → Bool) (n : Int) (w : World) (e : Ending) (w' : World) : Prop := ∃ x is, e = .returned (.tuple #[.int .i64 x, .bool is]) ∧ NextOK p n x is ∧ w = w'
theorem shl_shr (x r : Nat) (hx : x < 18446744073709551616) : x / 2 ^ r * 2 ^ r < 18446744073709551616 := Nat.lt_of_le_of_lt (Nat.div_mul_le_self x _) hx
theorem bit_masked (x r j : Nat) : (x / 2 ^ r * 2 ^ r).testBit j = (decide (r ≤ j) && x.testBit j) := by
  rw [Nat.testBit_mul_two_pow]
  by_cases h : r ≤ j
  · rw [Nat.testBit_div_two_pow, show j - r + r = j by omega]
  · simp [h]
set_option maxRecDepth 100000 in
set_option maxHeartbeats 2000000 in
theorem bit_next (A : Option Addr) (m c L : Nat) (ws : List Int) (n : Int) (hn : n ≤ 9223372036854775807) (w : World) (hr : Rd w L A m (ws.map (.int .u64))) (hw : ∀ z ∈ ws, Word z) (hc : m ≤ c) (hz : A = none → c = 0) (hT : Tz w) :
    Calls Tryd.prog 7 #[.slice A m c, .int .i64 n] w (NextRet (hasB ws) n w) := by
  obtain ⟨k, hk⟩ : ∃ k, k = min m 64 := ⟨_, rfl⟩
  have hcut := fun w => bit_cut A m c k hk hc hz w
  have hlen := hr.lenI
  obtain ⟨N, hN⟩ : ∃ N : Nat, max n 0 = N := ⟨(max n 0).toNat, by omega⟩
  obtain ⟨q, hq⟩ : ∃ q, N / 64 = q := ⟨_, rfl⟩
  obtain ⟨r, hr'⟩ : ∃ r, N % 64 = r := ⟨_, rfl⟩
  have hq' : (N : Int) / 64 = (q : Int) := by omega
  have hr'' : (N : Int) % 64 = (r : Int) := by omega
  have hr64 : r < 64 := by omega
  have hqb : q ≤ 144115188075855872 := by omega
  have HN : Hid (∀ z : Nat, n ≤ z ↔ q * 64 + r ≤ z) := fun z => by omega
  have HO : Hid (∀ z : Nat, k * 64 ≤ z → z < 4096 → hasB ws z = false) := fun z h1 h2 => hasB_out (by omega)
  have HR := Lib.hid hr
  have HT := Lib.hid hT
  have hk64 : k ≤ 64 := by omega
  have hkm : k ≤ m := by omega
  clear hr hk hlen hz hT hq hr'
  go_enter Tryd.func7, Tryd.ntmps7
  go_wp2_with (go_at_call 24; refine (hcut _).mono ?_; rintro e w' ⟨rfl, rfl⟩)
  go_loop [6] (fun i => ∃ j : Nat, q ≤ j ∧ j ≤ max q k ∧ i = .int .i64 j ∧ Hid (∀ z : Nat, z < j * 64 → n ≤ z → hasB ws z = false)) (fun i => k - (intOf i).toNat)
  case atStart => exact ⟨q, Nat.le_refl _, by omega, rfl, fun z h1 h2 => by have := (HN.out z).1 h2; omega⟩
  case round =>
    obtain ⟨j, hqj, hjk, rfl, hv⟩ := hrel
    have hjb : j ≤ 144115188075855872 := by omega
    by_cases hlt : j < k
    · obtain ⟨b, o, rfl, _, hcell⟩ := HR.out.atI (k := j) (by omega)
      obtain ⟨e, hlt2⟩ := wg_nat hw j
      rw [e] at hcell
      have HB : Hid (∀ b, b < 64 → hasB ws (j * 64 + b) = (wg ws j).testBit b) := fun b hb => by
        unfold hasB; rw [show (j * 64 + b) / 64 = j by omega, show (j * 64 + b) % 64 = b by omega]
      obtain ⟨x, hx⟩ : ∃ x, wg ws j = x := ⟨_, rfl⟩
      rw [hx] at hcell hlt2 HB
      clear e hx
      have fin : ∀ y : Nat, y < 18446744073709551616 → (∀ b, b < 64 → y.testBit b = (decide (n ≤ ((j * 64 + b : Nat) : Int)) && x.testBit b)) →
          (y = 0 → ∀ z : Nat, z < (j + 1) * 64 → n ≤ z → hasB ws z = false) ∧ (y ≠ 0 → NextOK (hasB ws) n ((j : Int) * 64 + (Lib.ctz 64 y : Nat)) true) := fun y hy hbits => by
        refine ⟨fun h0 z h1 h2 => ?_, fun h0 => ?_⟩
        · rcases Nat.lt_or_ge z (j * 64) with g | g
          · exact hv.out z g h2
          · obtain ⟨b, rfl⟩ : ∃ b, z = j * 64 + b := ⟨z - j * 64, by omega⟩
            have := hbits b (by omega)
            rw [h0, decide_eq_true h2, Nat.zero_testBit, Bool.true_and] at this
            rw [HB.out b (by omega), ← this]
        · obtain ⟨kk, hkk, hk2, hk3, hk4, _⟩ := low_spec y h0 hy
          rw [hkk]
          have hb := hbits kk hk2
          rw [hk3] at hb
          have hb' := hb.symm
          simp only [Bool.and_eq_true, decide_eq_true_eq] at hb'
          refine Or.inl ⟨j * 64 + kk, by omega, rfl, by omega, by rw [HB.out kk hk2]; exact hb'.2, hb'.1, fun z h1 h2 => ?_⟩
          rcases Nat.lt_or_ge z (j * 64) with g | g
          · exact hv.out z g h2
          · obtain ⟨b, rfl⟩ : ∃ b, z = j * 64 + b := ⟨z - j * 64, by omega⟩
            have h5 := hbits b (by omega)
            rw [hk4 b (by omega), decide_eq_true h2, Bool.true_and] at h5
            rw [HB.out b (by omega), ← h5]
      have HF := Lib.hid fin
      clear fin
      by_cases hjq : j = q
      · have t1 : ((j : Int) == (q : Int)) = true := by simp; omega
        obtain ⟨y, hy⟩ : ∃ y, x / 2 ^ r * 2 ^ r = y := ⟨_, rfl⟩
        have hy64 : y < 18446744073709551616 := by rw [← hy]; exact shl_shr x r hlt2
        have hsh : IntKind.u64.wrap ((x : Int) / 2 ^ r * 2 ^ r) = (y : Int) := by
          rw [show (x : Int) / 2 ^ r * 2 ^ r = ((x / 2 ^ r * 2 ^ r : Nat) : Int) by simp, hy, wrap_word (word_of_nat hy64)]
        have HY := HF.out y hy64 (fun b hb => by
          rw [← hy, bit_masked]
          congr 1
          rw [decide_eq_decide, HN.out]
          omega)
        have HY1 := Lib.hid HY
        have t2 : Hid (((y : Int) != 0) = decide (y ≠ 0)) := by show _ = _; by_cases h : y = 0 <;> simp [h]
        clear hy HY
        by_cases h0 : y = 0
        · subst h0
          have HV := Lib.hid (HY1.out.1 rfl)
          clear HY1 t2 hjq
          go_wp2
          go_round
          case rel => exact ⟨j + 1, by omega, by omega, by go_num, HV⟩
          case measure => simp [intOf]; omega
        · have hny : ((y : Int) != 0) = true := by rw [t2.out]; simp [h0]
          have htz := bits_tz y hy64 h0 w HT.out
          have hres := HY1.out.2 h0
          obtain ⟨kk, hkk, hk2, _⟩ := low_spec y h0 hy64
          rw [hkk] at htz hres
          have HRES := Lib.hid hres
          have HZ := Lib.hid htz
          clear HY1 t2 hjq h0 htz hres hkk hy64
          go_wp2_with (go_at_call 25; refine HZ.out.mono ?_; rintro e w' ⟨rfl, rfl⟩)
          go_ret2
          exact ⟨_, _, rfl, HRES.out, rfl⟩
      · have t1 : ((j : Int) == (q : Int)) = false := by simp; omega
        have HY := HF.out x hlt2 (fun b hb => by
          rw [decide_eq_true ((HN.out _).2 (by omega)), Bool.true_and])
        have HY1 := Lib.hid HY
        have t2 : Hid (((x : Int) != 0) = decide (x ≠ 0)) := by show _ = _; by_cases h : x = 0 <;> simp [h]
        clear HY hjq
        by_cases h0 : x = 0
        · subst h0
          have HV := Lib.hid (HY1.out.1 rfl)
          clear HY1 t2
          go_wp2
          go_round
          case rel => exact ⟨j + 1, by omega, by omega, by go_num, HV⟩
          case measure => simp [intOf]; omega
        · have hny : ((x : Int) != 0) = true := by rw [t2.out]; simp [h0]
          have htz := bits_tz x hlt2 h0 w HT.out
          have hres := HY1.out.2 h0
          obtain ⟨kk, hkk, hk2, _⟩ := low_spec x h0 hlt2
          rw [hkk] at htz hres
          have HRES := Lib.hid hres
          have HZ := Lib.hid htz
          clear HY1 t2 h0 htz hres hkk hlt2
          go_wp2_with (go_at_call 25; refine HZ.out.mono ?_; rintro e w' ⟨rfl, rfl⟩)
          go_ret2
          exact ⟨_, _, rfl, HRES.out, rfl⟩
    · have HV : Hid (NextOK (hasB ws) n 0 false) := Or.inr ⟨rfl, rfl, fun z h1 h2 => by
        rcases Nat.lt_or_ge z (j * 64) with g | g
        · exact hv.out z g h2
        · exact HO.out z (by omega) h1⟩
      have t1 : decide ((j : Int) < (k : Int)) = false := by simp; omega
      go_wp2
      go_ret2
      exact ⟨_, _, rfl, HV.out, rfl⟩
end Go.Proofs.YtknnalaemndnaaaDoor
