/- Walk of the law TagBack. -/
import Derived.Test.YtokgcjhlmohjgaaDoorLaw06b
import Derived.Test.YtokgcjhlmohjgaaDoorTagI
namespace Go.Proofs.YtokgcjhlmohjgaaDoor
open Go.RowKit
theorem hasM_or (x y z : Nat) : (hasM x y && hasM x z) = hasM x (y ||| z) := by
  unfold hasM
  rw [Bool.eq_iff_iff, Bool.and_eq_true, decide_eq_true_iff, decide_eq_true_iff, decide_eq_true_iff, Nat.and_or_distrib_left]
  constructor
  · rintro ⟨h1, h2⟩; rw [h1, h2]
  · intro h
    have hx : ∀ i, (x &&& y ||| x &&& z).testBit i = (y ||| z).testBit i := fun i => by rw [h]
    simp only [Nat.testBit_or, Nat.testBit_and] at hx
    constructor
    · refine Nat.eq_of_testBit_eq fun i => ?_
      have := hx i
      rw [Nat.testBit_and]
      cases h1 : x.testBit i <;> cases h2 : y.testBit i <;> cases h3 : z.testBit i <;> simp [h1, h2, h3] at this ⊢
    · refine Nat.eq_of_testBit_eq fun i => ?_
      have := hx i
      rw [Nat.testBit_and]
      cases h1 : x.testBit i <;> cases h2 : y.testBit i <;> cases h3 : z.testBit i <;> simp [h1, h2, h3] at this ⊢
theorem hasM_zero (x : Nat) : hasM x 0 = true := by unfold hasM; simp
theorem mOf_below {l : List Int} {B : Nat} (h : ∀ i ∈ l, i.toNat < B) : mOf l < 2 ^ B := by
  refine Nat.lt_pow_two_of_testBit _ fun j hj => ?_
  rw [mOf_bit, Bool.eq_false_iff]
  intro e
  obtain ⟨i, hi, he⟩ := List.any_eq_true.1 e
  have := h i hi
  have : i.toNat = j := eq_of_beq he
  omega
/-- The sum of the bits told grows by the next one. -/
theorem mb_sum {m k y : Nat} (hk : k < (mb m).length) (hy : ig (mb m) k = y) : mOf ((mb m).take (k + 1)) = mOf ((mb m).take k) + 2 ^ y := by
  have hr : (mb m).Pairwise (· < ·) := lst_pw _ _
  rw [take_step hk, mOf_snoc, hy, Int.toNat_natCast]
  have hb : mOf ((mb m).take k) < 2 ^ y := mOf_below fun i hi => by
    obtain ⟨q, hq, rfl⟩ := List.getElem_of_mem hi
    rw [List.length_take] at hq
    rw [List.getElem_take]
    have h1 := List.pairwise_iff_getElem.1 hr q k (by omega) hk (by omega)
    have e : ig (mb m) k = (mb m)[k] := by simp [ig, List.getD_eq_getElem?_getD, hk]
    rw [hy] at e
    have := mb_pl m _ (List.getElem_mem (show q < (mb m).length by omega))
    omega
  have := Nat.two_pow_add_eq_or_of_lt hb 1
  rw [Nat.mul_one, Nat.or_comm] at this
  omega
theorem prsM_lt {ts : List (List Int)} {s : List Int} : prsM ts s < 18446744073709551616 := by
  by_cases h : prsW ts s = 0
  · have h2 := parse_pl h
    unfold prsM
    rw [if_pos h]
    exact mOf_lt h2
  · unfold prsM
    rw [if_neg h]; decide
set_option maxRecDepth 100000 in
set_option maxHeartbeats 4000000 in
theorem tagBack_walk (A : Option Addr) (n c : Nat) (ts : List (List Int)) (m g o : Nat) (hm : m < 18446744073709551616) (hg : g < 18446744073709551616) (ho : o < 18446744073709551616) (s : List Int) (hs : Bytes s) (hl : s.length ≤ 4194304) (w : World) (hS : SArg w A n c ts) (hT : Tz w) :
    Calls Tryd.prog 4 #[.slice A n c, .int .u64 m, .int .u64 g, .int .u64 o, .string (strOfNums s)] w fun e w' => e = .returned (.bool true) ∧ Below w.heap.size w w' := by
  have HL := Lib.hid (lives06 w hT)
  by_cases h1 : 80 < n
  · have t1 : decide ((n : Int) > 80) = true := by simp; omega
    clear hS hT hm hg ho hs hl h1
    go_enter Tryd.func4, Tryd.ntmps4
    go_wp2_with fail
    refine HL.out.mono ?_
    rintro e w1 ⟨rfl, hb⟩
    go_wp2_with fail
    go_ret
    exact ⟨rfl, hb⟩
  · have t1 : decide ((n : Int) > 80) = false := by simp; omega
    have hor := u64_or_nat m o hm ho
    have hmo : m ||| o < 18446744073709551616 := Nat.or_lt_two_pow (n := 64) hm ho
    obtain ⟨t, e1⟩ : ∃ t, txL ts m = t := ⟨_, rfl⟩
    obtain ⟨y, e2⟩ : ∃ y, nmW ts m = y := ⟨_, rfl⟩
    obtain ⟨pm, e3⟩ : ∃ pm, prsM ts s = pm := ⟨_, rfl⟩
    obtain ⟨pw, e4⟩ : ∃ pw, prsW ts s = pw := ⟨_, rfl⟩
    have htb : y = 0 → prsM ts t = m ∧ prsW ts t = 0 := fun e => by rw [← e1]; exact text_back hm (e2.trans e)
    have hpb : pw = 0 → nmW ts pm = 0 ∧ txL ts pm = s := fun e => by rw [← e3]; exact parse_back (e4.trans e)
    have hbt : Bytes t := by
      rw [← e1]; exact bytes_joinP (nmL_bytes hm hS.bytes)
    have hlt : t.length ≤ 4194304 := by have := txL_len (ts := ts) hm; rw [e1] at this; omega
    have hpl : pm < 18446744073709551616 := by rw [← e3]; exact prsM_lt
    have E1 := Lib.hid e1
    have E2 := Lib.hid e2
    have E3 := Lib.hid e3
    have E4 := Lib.hid e4
    have HTB := Lib.hid htb
    have HPB := Lib.hid hpb
    have HBT := Lib.hid hbt
    have HLT := Lib.hid hlt
    have HPL := Lib.hid hpl
    have M := Lib.hid hm
    have HBY := Lib.hid hs
    have HLN := Lib.hid hl
    have HH1 := Lib.hid (fun w => sa_has hg hm w)
    have HH2 := Lib.hid (fun w => sa_has hg ho w)
    have HH3 := Lib.hid (fun w => sa_has hg hmo w)
    have HH4 := Lib.hid (fun w => sa_has (y := 0) hg (by decide) w)
    rw [hasM_zero] at HH4
    have hho := hasM_or g m o
    obtain ⟨b1, eb1⟩ : ∃ b, hasM g m = b := ⟨_, rfl⟩
    obtain ⟨b2, eb2⟩ : ∃ b, hasM g o = b := ⟨_, rfl⟩
    obtain ⟨b3, eb3⟩ : ∃ b, hasM g (m ||| o) = b := ⟨_, rfl⟩
    rw [eb1] at HH1 hho
    rw [eb2] at HH2 hho
    rw [eb3] at HH3 hho
    have HHO := Lib.hid hho
    have HOR := Lib.hid hor
    have S0 := Lib.hid hS
    have T0 := Lib.hid hT
    clear e1 e2 e3 e4 hm hg ho hs hl hS hT h1 htb hpb hbt hlt hpl hmo hor hho eb1 eb2 eb3
    go_enter Tryd.func4, Tryd.ntmps4
    go_wp2_with fail
    refine HL.out.mono ?_
    rintro e w1 ⟨rfl, hb⟩
    have S1 := Lib.hid (S0.out.below hb)
    have T1 := Lib.hid (T0.out.below hb)
    have B1 := Lib.hid hb
    clear hb S0 T0 HL
    go_wp2_with fail
    refine (sa_text S1.out T1.out m M.out E1.out E2.out).mono ?_
    rintro e w2 ⟨rfl, hb⟩
    have S2 := Lib.hid (S1.out.below hb)
    have T2 := Lib.hid (T1.out.below hb)
    have B2 := Lib.hid (B1.out.trans (hb.mono B1.out.size))
    clear hb S1 T1 B1
    by_cases hy : y = 0
    focus
      obtain ⟨q1, q2⟩ := HTB.out hy
      subst hy
      have Q1 := Lib.hid q1
      have Q2 := Lib.hid q2
      clear q1 q2
      go_wp2_with fail
      refine (sa_parse S2.out t HBT.out HLT.out Q1.out Q2.out).mono ?_
      rintro e w3 ⟨rfl, hb⟩
      have S3 := Lib.hid (S2.out.below hb)
      have T3 := Lib.hid (T2.out.below hb)
      have B3 := Lib.hid (B2.out.trans (hb.mono B2.out.size))
      clear hb S2 T2 B2 Q1 Q2
      go_wp2_with fail
    rotate_left 1
    focus
      have ty : (y == 0) = false := beq_false_of_ne hy
      clear hy
      have S3 := S2
      have T3 := T2
      have B3 := B2
      clear S2 T2 B2
      go_wp2_with fail
    all_goals (
      refine (sa_parse S3.out s HBY.out HLN.out E3.out E4.out).mono ?_
      rintro e w4 ⟨rfl, hb⟩
      have S4 := Lib.hid (S3.out.below hb)
      have T4 := Lib.hid (T3.out.below hb)
      have B4 := Lib.hid (B3.out.trans (hb.mono B3.out.size))
      clear hb S3 T3 B3
      rcases Decidable.em (pw = 0) with hp | hp)
    all_goals first
      | (have hq := HPB.out hp
         have Q1 := Lib.hid hq.1
         have Q2 := Lib.hid hq.2
         clear hq
         subst hp
         go_wp2_with fail
         refine (sa_text S4.out T4.out pm HPL.out Q2.out Q1.out).mono ?_
         rintro e w5 ⟨rfl, hb⟩
         have S5 := Lib.hid (S4.out.below hb)
         have T5 := Lib.hid (T4.out.below hb)
         have B5 := Lib.hid (B4.out.trans (hb.mono B4.out.size))
         clear hb S4 T4 B4 Q1 Q2
         go_wp2_with fail)
      | (have tp : (pw == 0) = false := beq_false_of_ne hp
         clear hp
         have S5 := S4
         have T5 := T4
         have B5 := B4
         clear S4 T4 B4
         go_wp2_with fail)
    all_goals (
      refine (tag_bits m M.out _ T5.out).mono ?_
      rintro e w6 ⟨⟨Ab, cb, rfl, hcb, hrb⟩, hb⟩
      have B6 := Lib.hid (B5.out.trans (hb.mono B5.out.size))
      have R6 := Lib.hid hrb
      clear hb hcb hrb S5 T5 B5
      have hlb := mb_len m
      obtain ⟨L, hL⟩ : ∃ L, (mb m).length = L := ⟨_, rfl⟩
      rw [hL] at hlb R6 ⊢
      have HL2 := Lib.hid hL
      clear hL
      go_wp2_with fail
      go_loopw [19, 72] (fun v i w' => ∃ (k : Nat), k ≤ L ∧ i = .int .i64 k ∧ v = .int .u64 (mOf ((mb m).take k)) ∧ w6 = w') (fun _ i _ => L - (intOf i).toNat)
      case atStart => exact ⟨0, Nat.zero_le _, rfl, rfl, rfl⟩
      case round =>
        obtain ⟨k, hk, rfl, rfl, rfl⟩ := hrel
        by_cases hlt : k < L
        · have hka : k < (mb m).length := by have := HL2.out; omega
          obtain ⟨b, o, rfl, hbl, hc1⟩ := R6.out.atI hlt
          have hpl := mb_pl m _ (ig_mem2 hka)
          obtain ⟨z, hz⟩ : ∃ z : Nat, ig (mb m) k = z := Int.eq_ofNat_of_zero_le hpl.1
          rw [hz] at hc1 hpl
          have hz64 : z < 64 := by omega
          have hsn := mb_sum hka hz
          have hmlt := mOf_lt ((show Pl (mb m) from mb_pl m).take (k + 1))
          rw [hsn] at hmlt
          obtain ⟨x, hx⟩ : ∃ x, mOf ((mb m).take k) = x := ⟨_, rfl⟩
          rw [hx] at hsn hmlt ⊢
          have hadd : IntKind.u64.wrap ((x : Int) + IntKind.u64.wrap (2 ^ z)) = ((x + 2 ^ z : Nat) : Int) := by
            rw [shl_one hz64, wrap_u64]; omega
          rw [← hsn] at hadd
          have HO := Lib.hid hadd
          clear hsn hx hz hpl hka hadd hmlt
          go_wp2_with fail
          go_roundw
          case rel => exact ⟨k + 1, hlt, by go_num, by rw [← HO.out], trivial⟩
          case measure => simp [intOf]; omega
        · obtain rfl : k = L := by omega
          have htk : (mb m).take k = mb m := List.take_of_length_le (by rw [HL2.out]; exact Nat.le_refl _)
          have hsum := mOf_mb M.out
          rw [htk, hsum]
          have hor := HOR.out
          clear htk hsum hlb hk hlt
          go_wp2_with fail
          refine (HH1.out _).mono ?_
          rintro e w' ⟨rfl, rfl⟩
          cases b1 with
          | true =>
            go_wp2_with fail
            refine (HH2.out _).mono ?_
            rintro e w' ⟨rfl, rfl⟩
            rw [Bool.true_and] at HHO
            have hbo := HHO.out
            subst hbo
            go_wp2_with fail
            refine (HH3.out _).mono ?_
            rintro e w' ⟨rfl, rfl⟩
            have hbq : (b2 == b2) = true := by cases b2 <;> rfl
            go_wp2_with fail
            refine (HH4.out _).mono ?_
            rintro e w' ⟨rfl, rfl⟩
            go_wp2_with fail
            go_ret
            exact ⟨rfl, B6.out⟩
          | false =>
            rw [Bool.false_and] at HHO
            have hbo := HHO.out
            subst hbo
            go_wp2_with fail
            refine (HH3.out _).mono ?_
            rintro e w' ⟨rfl, rfl⟩
            go_wp2_with fail
            refine (HH4.out _).mono ?_
            rintro e w' ⟨rfl, rfl⟩
            go_wp2_with fail
            go_ret
            exact ⟨rfl, B6.out⟩)
theorem tagBack_any (A : Option Addr) (n c : Nat) (ts : List (List Int)) (x y z : Int) (hx : Word x) (hy : Word y) (hz : Word z) (s : ByteArray) (hs : s.size ≤ 4194304) (w : World) (hS : SArg w A n c ts) (hT : Tz w) :
    Calls Tryd.prog 4 #[.slice A n c, .int .u64 x, .int .u64 y, .int .u64 z, .string s] w fun e w' => e = .returned (.bool true) ∧ Below w.heap.size w w' := by
  obtain ⟨m, rfl, hm⟩ := word_nat hx
  obtain ⟨g, rfl, hg⟩ := word_nat hy
  obtain ⟨o, rfl, ho⟩ := word_nat hz
  have h := tagBack_walk A n c ts m g o hm hg ho (bytesOf s) (bytes_of s) (by rw [bytesOf_len]; exact hs) w hS hT
  rw [str_of] at h
  exact h
end Go.Proofs.YtokgcjhlmohjgaaDoor
