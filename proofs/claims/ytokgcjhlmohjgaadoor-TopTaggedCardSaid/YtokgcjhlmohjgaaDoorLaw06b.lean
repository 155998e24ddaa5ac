/- Walk of the law TagTells. -/
import Derived.Test.YtokgcjhlmohjgaaDoorLaw06
namespace Go.Proofs.YtokgcjhlmohjgaaDoor
open Go.RowKit
theorem ra_text {w : World} {A : Option Addr} {n c : Nat} {ts : List (List Int)} (h : SArg w A n c ts) (m : Nat) (hm : m < 18446744073709551616) {t : List Int} {y : Int} (e1 : txL ts m = t) (e2 : nmW ts m = y) :
    Calls Tryd.prog 10 #[.slice A n c, .int .u64 m] w fun e w' => e = .returned (.tuple #[.string (strOfNums t), .int .i64 y]) ∧ Below w.heap.size w w' := by
  subst e1 e2; exact ref_text A n c ts h.bytes h.size m hm w h.rd
theorem ra_parse {w : World} {A : Option Addr} {n c : Nat} {ts : List (List Int)} (h : SArg w A n c ts) (s : List Int) (hs : Bytes s) (hl : s.length ≤ 4194304) {m : Nat} {y : Int} (e1 : prsM ts s = m) (e2 : prsW ts s = y) :
    Calls Tryd.prog 12 #[.slice A n c, .string (strOfNums s)] w fun e w' => e = .returned (.tuple #[.int .u64 m, .int .i64 y]) ∧ Below w.heap.size w w' := by
  subst e1 e2; exact ref_parse A n c ts h.bytes h.size s hs hl w h.rd
theorem ra_names {w : World} {A : Option Addr} {n c : Nat} {ts : List (List Int)} (h : SArg w A n c ts) (m : Nat) (hm : m < 18446744073709551616) {l : List (List Int)} {y : Int} (e1 : nmL ts m = l) (e2 : nmW ts m = y) :
    Calls Tryd.prog 8 #[.slice A n c, .int .u64 m] w (RetS l y w) := by
  subst e1 e2; exact ref_names A n c ts h.bytes h.size m hm w h.rd
theorem ra_check {w : World} {A : Option Addr} {n c : Nat} {ts : List (List Int)} (h : SArg w A n c ts) {y : Int} (e : chkE ts = y) :
    Calls Tryd.prog 14 #[.slice A n c] w fun e w' => e = .returned (.int .i64 y) ∧ w = w' := by
  subst e; exact ref_check A n c ts h.bytes h.size w h.rd
/-- Whether all bits of a mask are among some. -/
def hasM (x y : Nat) : Bool := decide (x &&& y = y)
theorem andNot_zero {x y : Nat} (hx : x < 18446744073709551616) (hy : y < 18446744073709551616) : (bits .andNot .u64 (y : Int) (x : Int) == 0) = hasM x y := by
  rw [u64_andNot_nat y x hy hx]
  have hb : ∀ i, (18446744073709551615 - x).testBit i = (decide (i < 64) && !x.testBit i) := fun i => by
    have := Nat.testBit_two_pow_sub_succ (x := x) (n := 64) hx i
    rw [show 2 ^ 64 - (x + 1) = 18446744073709551615 - x by omega] at this
    exact this
  have hy64 : ∀ i, 64 ≤ i → y.testBit i = false := fun i hi => Nat.testBit_lt_two_pow (Nat.lt_of_lt_of_le hy (Nat.pow_le_pow_right (n := 2) (by decide) hi))
  unfold hasM
  rw [Bool.eq_iff_iff, decide_eq_true_iff]
  constructor
  · intro h
    have h0 : y &&& (18446744073709551615 - x) = 0 := by simpa using h
    refine Nat.eq_of_testBit_eq fun i => ?_
    have h1 := congrArg (fun n => Nat.testBit n i) h0
    simp only [Nat.testBit_and, hb, Nat.zero_testBit] at h1 ⊢
    rcases Nat.lt_or_ge i 64 with g | g
    · rw [decide_eq_true g] at h1
      cases hx1 : x.testBit i <;> cases hy1 : y.testBit i <;> simp [hx1, hy1] at h1 ⊢
    · rw [hy64 i g]; simp
  · intro h
    have h0 : y &&& (18446744073709551615 - x) = 0 := by
      refine Nat.eq_of_testBit_eq fun i => ?_
      have h1 := congrArg (fun n => Nat.testBit n i) h
      simp only [Nat.testBit_and, hb, Nat.zero_testBit] at h1 ⊢
      cases hx1 : x.testBit i <;> cases hy1 : y.testBit i <;> simp [hx1, hy1] at h1 ⊢
    rw [h0]; rfl
theorem and_same {x y : Nat} (hx : x < 18446744073709551616) (hy : y < 18446744073709551616) : (bits .and .u64 (x : Int) (y : Int) == (y : Int)) = hasM x y := by
  rw [u64_and_nat x y hx hy]
  unfold hasM
  rw [Bool.eq_iff_iff]
  simp
  omega
theorem sa_has {x y : Nat} (hx : x < 18446744073709551616) (hy : y < 18446744073709551616) (w : World) :
    Calls Tryd.prog 16 #[.int .u64 x, .int .u64 y] w fun e w' => e = .returned (.bool (hasM x y)) ∧ w = w' := by
  rw [← andNot_zero hx hy]; exact tag_has x y w
set_option maxRecDepth 100000 in
set_option maxHeartbeats 4000000 in
theorem tagTells_walk (A : Option Addr) (n c : Nat) (ts : List (List Int)) (m g : Nat) (hm : m < 18446744073709551616) (hg : g < 18446744073709551616) (s : List Int) (hs : Bytes s) (hsz : s.length ≤ 9223372036854775807) (w : World) (hS : SArg w A n c ts) (hT : Tz w) :
    Calls Tryd.prog 3 #[.slice A n c, .int .u64 m, .int .u64 g, .string (strOfNums s)] w fun e w' => e = .returned (.bool true) ∧ Below w.heap.size w w' := by
  have hss := strOfNums_size s
  by_cases hbig : 80 < n ∨ 3000 < s.length
  · have HL := Lib.hid (lives06 w hT)
    by_cases h1 : 80 < n
    · have t1 : decide ((n : Int) > 80) = true := by simp; omega
      clear hS hT hss hm hg hs hsz hbig h1
      go_enter Tryd.func3, Tryd.ntmps3
      go_wp2_with fail
      refine HL.out.mono ?_
      rintro e w1 ⟨rfl, hb⟩
      go_wp2_with fail
      go_ret
      exact ⟨rfl, hb⟩
    · have t1 : decide ((n : Int) > 80) = false := by simp; omega
      have h2 : 3000 < s.length := hbig.resolve_left h1
      have t2 : decide ((s.length : Int) > 3000) = true := by simp; omega
      clear hS hT hm hg hs hsz hbig h1 h2
      go_enter Tryd.func3, Tryd.ntmps3
      go_wp2_with fail
      refine HL.out.mono ?_
      rintro e w1 ⟨rfl, hb⟩
      go_wp2_with fail
      go_ret
      exact ⟨rfl, hb⟩
  · have h1 : n ≤ 80 := by omega
    have h2 : s.length ≤ 3000 := by omega
    have t1 : decide ((n : Int) > 80) = false := by simp; omega
    have t2 : decide ((s.length : Int) > 3000) = false := by simp; omega
    have hl : s.length ≤ 4194304 := by omega
    have hll : (nmL ts m).length ≤ 4611686018427387904 := by have := nmL_len ts m; omega
    have HNB := Lib.hid (nmL_bytes hm hS.bytes)
    have hbl : (mb m).length ≤ 4611686018427387904 := by have := mb_len m; omega
    obtain ⟨l, e1⟩ : ∃ l, nmL ts m = l := ⟨_, rfl⟩
    obtain ⟨y, e2⟩ : ∃ y, nmW ts m = y := ⟨_, rfl⟩
    obtain ⟨t, e3⟩ : ∃ t, txL ts m = t := ⟨_, rfl⟩
    obtain ⟨pm, e4⟩ : ∃ pm, prsM ts s = pm := ⟨_, rfl⟩
    obtain ⟨pw, e5⟩ : ∃ pw, prsW ts s = pw := ⟨_, rfl⟩
    obtain ⟨ck, e6⟩ : ∃ ck, chkE ts = ck := ⟨_, rfl⟩
    obtain ⟨bl, e7⟩ : ∃ bl, mb m = bl := ⟨_, rfl⟩
    rw [e1] at HNB hll
    rw [e7] at hbl
    have E1 := Lib.hid e1
    have E2 := Lib.hid e2
    have E3 := Lib.hid e3
    have E4 := Lib.hid e4
    have E5 := Lib.hid e5
    have E6 := Lib.hid e6
    have E7 := Lib.hid e7
    have M := Lib.hid hm
    have HBY := Lib.hid hs
    have HLN := Lib.hid hl
    have HLL := Lib.hid hll
    have HBL := Lib.hid hbl
    have hand := and_same hg hm
    have HH := Lib.hid (fun w => sa_has hg hm w)
    obtain ⟨hv, ehv⟩ : ∃ hv, hasM g m = hv := ⟨_, rfl⟩
    rw [ehv] at hand HH
    have S0 := Lib.hid hS
    have T0 := Lib.hid hT
    have B0 : Hid (Below w.heap.size w w) := Below.refl _ _
    clear e1 e2 e3 e4 e5 e6 e7 hm hg hs hl hll hbl hS hT hsz hbig h1 h2 ehv
    go_enter Tryd.func3, Tryd.ntmps3
    go_wp2_with fail
    refine (sa_names S0.out T0.out m M.out E1.out E2.out).mono ?_
    rintro e w1 ⟨⟨A1, c1, rfl, hc1, hr1⟩, hb⟩
    have S1 := Lib.hid (S0.out.below hb)
    have T1 := Lib.hid (T0.out.below hb)
    have B1 := Lib.hid (B0.out.trans (hb.mono B0.out.size))
    have R1_1 := Lib.hid hr1
    clear hr1 hc1
    clear hb S0 T0 B0 
    go_wp2_with fail
    refine (ra_names S1.out m M.out E1.out E2.out).mono ?_
    rintro e w2 ⟨⟨A2, c2, rfl, hc2, hr2⟩, hb⟩
    have S2 := Lib.hid (S1.out.below hb)
    have T2 := Lib.hid (T1.out.below hb)
    have B2 := Lib.hid (B1.out.trans (hb.mono B1.out.size))
    have R1_2 := Lib.hid ((R1_1.out.below hb).more hb.size)
    have R2_2 := Lib.hid hr2
    clear hr2 hc2
    clear hb S1 T1 B1 R1_1
    go_wp2_with fail
    refine (sa_text S2.out T2.out m M.out E3.out E2.out).mono ?_
    rintro e w3 ⟨rfl, hb⟩
    have S3 := Lib.hid (S2.out.below hb)
    have T3 := Lib.hid (T2.out.below hb)
    have B3 := Lib.hid (B2.out.trans (hb.mono B2.out.size))
    have R1_3 := Lib.hid ((R1_2.out.below hb).more hb.size)
    have R2_3 := Lib.hid ((R2_2.out.below hb).more hb.size)
    clear hb S2 T2 B2 R1_2 R2_2
    go_wp2_with fail
    refine (ra_text S3.out m M.out E3.out E2.out).mono ?_
    rintro e w4 ⟨rfl, hb⟩
    have S4 := Lib.hid (S3.out.below hb)
    have T4 := Lib.hid (T3.out.below hb)
    have B4 := Lib.hid (B3.out.trans (hb.mono B3.out.size))
    have R1_4 := Lib.hid ((R1_3.out.below hb).more hb.size)
    have R2_4 := Lib.hid ((R2_3.out.below hb).more hb.size)
    clear hb S3 T3 B3 R1_3 R2_3
    go_wp2_with fail
    refine (sa_parse S4.out s HBY.out HLN.out E4.out E5.out).mono ?_
    rintro e w5 ⟨rfl, hb⟩
    have S5 := Lib.hid (S4.out.below hb)
    have T5 := Lib.hid (T4.out.below hb)
    have B5 := Lib.hid (B4.out.trans (hb.mono B4.out.size))
    have R1_5 := Lib.hid ((R1_4.out.below hb).more hb.size)
    have R2_5 := Lib.hid ((R2_4.out.below hb).more hb.size)
    clear hb S4 T4 B4 R1_4 R2_4
    go_wp2_with fail
    refine (ra_parse S5.out s HBY.out HLN.out E4.out E5.out).mono ?_
    rintro e w6 ⟨rfl, hb⟩
    have S6 := Lib.hid (S5.out.below hb)
    have T6 := Lib.hid (T5.out.below hb)
    have B6 := Lib.hid (B5.out.trans (hb.mono B5.out.size))
    have R1_6 := Lib.hid ((R1_5.out.below hb).more hb.size)
    have R2_6 := Lib.hid ((R2_5.out.below hb).more hb.size)
    clear hb S5 T5 B5 R1_5 R2_5
    go_wp2_with fail
    refine (lives06 _ T6.out).mono ?_
    rintro e w7 ⟨rfl, hb⟩
    have S7 := Lib.hid (S6.out.below hb)
    have T7 := Lib.hid (T6.out.below hb)
    have B7 := Lib.hid (B6.out.trans (hb.mono B6.out.size))
    have R1_7 := Lib.hid ((R1_6.out.below hb).more hb.size)
    have R2_7 := Lib.hid ((R2_6.out.below hb).more hb.size)
    clear hb S6 T6 B6 R1_6 R2_6
    go_wp2_with fail
    refine (sa_check S7.out E6.out).mono ?_
    rintro e w8 ⟨rfl, hb⟩
    have S8 := Lib.hid (S7.out.below hb)
    have T8 := Lib.hid (T7.out.below hb)
    have B8 := Lib.hid (B7.out.trans (hb.mono B7.out.size))
    have R1_8 := Lib.hid ((R1_7.out.below hb).more hb.size)
    have R2_8 := Lib.hid ((R2_7.out.below hb).more hb.size)
    clear hb S7 T7 B7 R1_7 R2_7
    go_wp2_with fail
    refine (ra_check S8.out E6.out).mono ?_
    rintro e w' ⟨rfl, rfl⟩
    have S9 := S8
    have T9 := T8
    have B9 := B8
    have R1_9 := R1_8
    have R2_9 := R2_8
    clear S8 T8 B8 R1_8 R2_8
    go_wp2_with fail
    refine (ref_texts A1 A2 _ _ c1 c2 _ _ l l HNB.out HNB.out _ R1_9.out R2_9.out HLL.out HLL.out).mono ?_
    rw [has_same rfl]
    rintro e w9 ⟨rfl, q9, hw9⟩
    have b10 : Below w8.heap.size w8 w9 := by rw [hw9]; exact below_drewN (Below.refl _ _) q9
    have S10 := Lib.hid (S9.out.below b10)
    have T10 := Lib.hid (T9.out.below b10)
    have B10 := Lib.hid (B9.out.trans (b10.mono B9.out.size))
    clear hw9 b10 S9 T9 B9 R1_9 R2_9
    go_wp2_with fail
    refine (HH.out _).mono ?_
    rintro e w' ⟨rfl, rfl⟩
    have hbq : (hv == hv) = true := by cases hv <;> rfl
    go_wp2_with fail
    have hbt := tag_bits m M.out w9 T10.out
    rw [E7.out] at hbt
    refine hbt.mono ?_
    rintro e w10 ⟨⟨Ab, cb, rfl, hcb, hrb⟩, hb⟩
    have B11 := Lib.hid (B10.out.trans (hb.mono B10.out.size))
    have R11 := Lib.hid hrb
    clear hb hcb hrb hbt S10 T10 B10
    go_wp2_with fail
    have hbt := ref_bits m M.out w10
    rw [E7.out] at hbt
    refine hbt.mono ?_
    rintro e w11 ⟨⟨Ad, cd, rfl, hcd, hrd⟩, hb⟩
    have B12 := Lib.hid (B11.out.trans (hb.mono B11.out.size))
    have R12 := Lib.hid ((R11.out.below hb).more hb.size)
    have R13 := Lib.hid hrd
    clear hb hcd hrd hbt R11 B11
    go_wp2_with fail
    refine (same_ints Ab Ad _ _ cb cd _ bl bl _ R12.out R13.out HBL.out HBL.out).mono ?_
    rw [show sameB bl bl = true by unfold sameB; simp]
    rintro e w12 ⟨rfl, q12, rfl⟩
    go_wp2_with fail
    go_ret
    exact ⟨rfl, below_drewN B12.out q12⟩
theorem bytesOf_len (s : ByteArray) : (bytesOf s).length = s.size := by simp [bytesOf]
theorem sarg_mk {w : World} {A : Option Addr} {n c : Nat} {ts : List (List Int)} (hr : Rd w w.heap.size A n (ts.map fun t => .string (strOfNums t))) (hb : ∀ t ∈ ts, Bytes t) (hs : ∀ t ∈ ts, t.length ≤ maxLen) : SArg w A n c ts :=
  ⟨hr, hb, fun t ht => by have := hs t ht; unfold maxLen at this; omega⟩
theorem tagTells_any (A : Option Addr) (n c : Nat) (ts : List (List Int)) (x y : Int) (hx : Word x) (hy : Word y) (s : ByteArray) (hs : s.size ≤ maxLen) (w : World) (hS : SArg w A n c ts) (hT : Tz w) :
    Calls Tryd.prog 3 #[.slice A n c, .int .u64 x, .int .u64 y, .string s] w fun e w' => e = .returned (.bool true) ∧ Below w.heap.size w w' := by
  obtain ⟨m, rfl, hm⟩ := word_nat hx
  obtain ⟨g, rfl, hg⟩ := word_nat hy
  have h := tagTells_walk A n c ts m g hm hg (bytesOf s) (bytes_of s) (by rw [bytesOf_len]; unfold maxLen at hs; omega) w hS hT
  rw [str_of] at h
  exact h
end Go.Proofs.YtokgcjhlmohjgaaDoor
