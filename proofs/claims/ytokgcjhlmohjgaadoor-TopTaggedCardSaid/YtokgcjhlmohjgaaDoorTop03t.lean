/- Walk of the law TopTagged. -/
import Derived.Test.YtokgcjhlmohjgaaDoorVecW
import Derived.Test.YtokgcjhlmohjgaaDoorLaw06c
namespace Go.Proofs.YtokgcjhlmohjgaaDoor
open Go.RowKit
theorem rd_one32 (w : World) (t : Nat) (x : Int) : Rd (w.alloc (.cells #[.int .i32 x] t)) (w.alloc (.cells #[.int .i32 x] t)).heap.size (some ⟨w.heap.size, 0, none⟩) 1 ([x].map (.int .i32)) :=
  IB.rd (g := w.heap.size) (t := t) (cs := [x]) ⟨[], by rw [heap_alloc_new]; simp⟩
set_option maxRecDepth 100000 in
set_option maxHeartbeats 1000000 in
theorem begins3_any (w : World) : Calls Tryd.prog 20 #[] w fun e w' => e = .returned (.bool true) ∧ Below w.heap.size w w' := by
  have h1 := Lib.hid (show (bits .andNot .u64 ((1 : Nat) : Int) ((3 : Nat) : Int) == 0) = true by decide)
  have h2 := Lib.hid (show (bits .andNot .u64 ((3 : Nat) : Int) ((1 : Nat) : Int) == 0) = false by decide)
  have c1 := fun w => tag_has 3 1 w
  have c2 := fun w => tag_has 1 3 w
  rw [h1.out] at c1
  rw [h2.out] at c2
  go_enter Tryd.func20, Tryd.ntmps20
  go_wp2_with fail
  have r1 := rd_one32 w 21 1
  obtain ⟨w1, hw1⟩ : ∃ w1, w.alloc (.cells #[.int .i32 1] 21) = w1 := ⟨_, rfl⟩
  have hs1 : w1.heap.size = w.heap.size + 1 := by rw [← hw1]; simp
  have b1 : Below w.heap.size w w1 := by rw [← hw1]; exact (Below.refl _ _).alloc (Nat.le_refl _) _
  rw [hw1] at r1
  rw [hw1, ← hs1]
  have r2 := rd_one32 w1 21 4
  have b2 : Below w1.heap.size w1 (w1.alloc (.cells #[.int .i32 4] 21)) := (Below.refl _ _).alloc (Nat.le_refl _) _
  have r3 := (r1.below b2).more b2.size
  have B2 := b1.trans (b2.mono b1.size)
  refine (vec_dist _ 1 1 [1] _ 1 1 [4] _ _ r3 r2 (by simp) (by simp) (by decide) (by decide)).mono ?_
  rw [show distE [1] [4] = 9 by decide]
  rintro e w' ⟨rfl, rfl⟩
  clear r1 r2 r3 b1 b2 hw1 hs1
  go_wp2_with fail
  refine (c1 _).mono ?_
  rintro e w' ⟨rfl, rfl⟩
  go_wp2_with fail
  refine (c2 _).mono ?_
  rintro e w' ⟨rfl, rfl⟩
  go_wp2_with fail
  go_ret
  exact ⟨rfl, B2⟩
theorem mb_two {k : Nat} (hk : k < 64) : mb (2 ^ k) = [(k : Int)] := by
  refine rise_ext _ _ (lst_pw _ _) (by simp) fun x => ?_
  rw [List.mem_singleton]
  constructor
  · intro h
    obtain ⟨n, rfl, _, hb⟩ := mem_lst.1 h
    rw [Nat.testBit_two_pow] at hb
    simp at hb
    omega
  · rintro rfl
    exact mem_lst.2 ⟨k, rfl, hk, by rw [Nat.testBit_two_pow]; simp⟩
/-- One name alone is read as its bit. -/
theorem name_parse {ts : List (List Int)} (hc : chkE ts = 0) {k : Nat} (hk : k < ts.length) : prsM ts (tg ts k) = 2 ^ k ∧ prsW ts (tg ts k) = 0 := by
  obtain ⟨h64, _, _⟩ := chk_zero hc
  have hk64 : k < 64 := by omega
  have hlt : 2 ^ k < 18446744073709551616 := Nat.pow_lt_pow_right (a := 2) (by decide) hk64
  have hz : 2 ^ k / 2 ^ ts.length = 0 := Nat.div_eq_of_lt (Nat.pow_lt_pow_right (by decide) hk)
  obtain ⟨e1, e2⟩ := nm_ok hc hz
  have ht : txL ts (2 ^ k) = tg ts k := by
    unfold txL; rw [e2]; unfold nmE; rw [mb_two hk64]
    show tg ts ((k : Int)).toNat ++ joinT [] = _
    rw [Int.toNat_natCast]
    exact List.append_nil _
  have := text_back hlt e1
  rw [ht] at this
  exact this
theorem hasM_bit {m k : Nat} (h : m.testBit k = true) : hasM m (2 ^ k) = true := by
  unfold hasM
  refine decide_eq_true (Nat.eq_of_testBit_eq fun i => ?_)
  rw [Nat.testBit_and, Nat.testBit_two_pow]
  by_cases e : k = i
  · subst e; simp [h]
  · simp [e]
set_option maxRecDepth 100000 in
set_option maxHeartbeats 4000000 in
theorem topTagged_walk (A : Option Addr) (n c : Nat) (ts : List (List Int)) (m g : Nat) (hm : m < 18446744073709551616) (hg : g < 18446744073709551616) (w : World) (hS : SArg w A n c ts) (hT : Tz w) :
    Calls Tryd.prog 5 #[.slice A n c, .int .u64 m, .int .u64 g] w fun e w' => e = .returned (.bool true) ∧ Below w.heap.size w w' := by
  obtain ⟨l, e1⟩ : ∃ l, nmL ts m = l := ⟨_, rfl⟩
  obtain ⟨y, e2⟩ : ∃ y, nmW ts m = y := ⟨_, rfl⟩
  have hl0 : y ≠ 0 → l = [] := fun h => by rw [← e1]; unfold nmL; rw [if_neg (by rw [e2]; exact h)]
  have hnts : n = ts.length := by have := hS.rd.1; simpa using this.symm
  have hc0 : y = 0 → chkE ts = 0 := fun h => by
    apply Classical.byContradiction; intro hc
    have := (nm_chk (m := m) hc).1
    omega
  have h64 : y = 0 → n ≤ 64 := fun h => by have := (chk_zero (hc0 h)).1; omega
  have E1 := Lib.hid e1
  have E2 := Lib.hid e2
  have M := Lib.hid hm
  have G := Lib.hid hg
  have S0 := Lib.hid hS
  have T0 := Lib.hid hT
  have HC := Lib.hid hc0
  have HNT := Lib.hid hnts
  clear e1 e2 hm hg hS hT hc0 hnts
  go_enter Tryd.func5, Tryd.ntmps5
  go_wp2_with fail
  refine (begins3_any w).mono ?_
  rintro e w1 ⟨rfl, hb⟩
  have S1 := Lib.hid (S0.out.below hb)
  have T1 := Lib.hid (T0.out.below hb)
  have B1 := Lib.hid hb
  clear hb S0 T0
  go_wp2_with fail
  refine (sa_names S1.out T1.out m M.out E1.out E2.out).mono ?_
  rintro e w2 ⟨⟨A1, c1, rfl, hc1, hr1⟩, hb⟩
  have S2 := Lib.hid (S1.out.below hb)
  have T2 := Lib.hid (T1.out.below hb)
  have B2 := Lib.hid (B1.out.trans (hb.mono B1.out.size))
  have R2 := Lib.hid hr1
  clear hr1 hc1 hb S1 T1 B1
  by_cases hy : y = 0
  · have hn := h64 hy
    have t1 : decide ((n : Int) > 80) = false := by simp; omega
    have hlE : l = nmE ts m := by have := nm_ok (ts := ts) (m := m) (HC.out hy); rw [← E1.out]; unfold nmL; rw [if_pos (by rw [E2.out]; exact hy)]
    have hll : l.length = (mb m).length := by rw [hlE, nmE_len]
    have hL64 := mb_len m
    obtain ⟨L, hL⟩ : ∃ L, (mb m).length = L := ⟨_, rfl⟩
    rw [hL] at hll hL64
    have HZ : Hid (m / 2 ^ ts.length = 0) := by
      show _ = _
      apply Classical.byContradiction; intro hz
      have := (nm_range (HC.out hy) hz).1
      have := E2.out
      omega
    have HC0 := Lib.hid (HC.out hy)
    have HLE := Lib.hid hlE
    have HL2 := Lib.hid hL
    subst hy
    rw [hll] at R2 ⊢
    clear hl0 h64 hn HC hL hll hlE
    go_wp2_with fail
    go_loopw [9, 38] (fun v i wr => ∃ (k : Nat), k ≤ L ∧ i = .int .i64 k ∧ v = .bool (hasM g (mOf ((mb m).take k))) ∧ Hid (Below w.heap.size w wr) ∧ Hid (Below w2.heap.size w2 wr)) (fun _ i _ => L - (intOf i).toNat)
    case atStart => exact ⟨0, Nat.zero_le _, rfl, by rw [show mOf ((mb m).take 0) = 0 by rfl, hasM_zero], B2, Below.refl _ _⟩
    case round =>
      obtain ⟨k, hk, rfl, rfl, hb1, hb2⟩ := hrel
      by_cases hlt : k < L
      · have hka : k < (mb m).length := by have := HL2.out; omega
        have hkl : k < l.length := by rw [HLE.out, nmE_len]; exact hka
        have R3 := (R2.out.below hb2.out).more hb2.out.size
        obtain ⟨b, o, rfl, hbl, hc1⟩ := R3.atS hlt
        obtain ⟨z, hz, hz64, hbit⟩ := mb_at hka
        have hzn : z < ts.length := by
          have := (hi_zero M.out).1 HZ.out k hka
          rw [hz] at this; omega
        have htg : tg l k = tg ts z := by
          rw [tg_get hkl]
          simp only [HLE.out]
          unfold nmE
          rw [List.getElem_map]
          have e : ig (mb m) k = (mb m)[k] := by simp [ig, List.getD_eq_getElem?_getD, hka]
          rw [← e, hz, Int.toNat_natCast]
        have hp := name_parse HC0.out hzn
        have hz2 : 2 ^ z < 18446744073709551616 := Nat.pow_lt_pow_right (a := 2) (by decide) hz64
        have hzp : 0 < 2 ^ z := Nat.two_pow_pos z
        have hmem : tg ts z ∈ ts := tg_mem hzn
        have hbt : Bytes (tg ts z) := S2.out.bytes _ hmem
        have hlen : (tg ts z).length ≤ 4194304 := by
          have := name_len (List.all_eq_true.1 (chk_zero HC0.out).2.1 _ hmem); omega
        have hsn : hasM g (mOf ((mb m).take (k + 1))) = (hasM g (mOf ((mb m).take k)) && hasM g (2 ^ z)) := by
          rw [take_step hka, mOf_snoc, hz, Int.toNat_natCast, hasM_or]
        have han := andNot_zero M.out hz2
        rw [hasM_bit hbit] at han
        have hhas := fun w => sa_has (x := g) G.out hz2 w
        rw [htg] at hc1
        obtain ⟨t, ht⟩ : ∃ t, tg ts z = t := ⟨_, rfl⟩
        obtain ⟨q, hq⟩ : ∃ q, 2 ^ z = q := ⟨_, rfl⟩
        obtain ⟨v1, hv1⟩ : ∃ v, hasM g (mOf ((mb m).take k)) = v := ⟨_, rfl⟩
        obtain ⟨v2, hv2⟩ : ∃ v, hasM g (2 ^ z) = v := ⟨_, rfl⟩
        rw [hv2] at hsn hhas
        rw [hv1] at hsn ⊢
        rw [ht] at hp hbt hlen hc1
        rw [hq] at hp han hhas hzp
        have tq : ((q : Int) == 0) = false := by simp; omega
        have HPA := Lib.hid (sa_parse (S2.out.below hb2.out) t hbt hlen hp.1 hp.2)
        have HHAS := Lib.hid hhas
        have HSN := Lib.hid hsn
        clear hhas hsn hp hbt hlen ht hq hv1 hv2 hmem htg hzn hbit hz hz2 hzp hkl hka R3 hz64
        go_wp2_with fail
        refine HPA.out.mono ?_
        rintro e w3 ⟨rfl, hb⟩
        have B3 := Lib.hid (hb1.out.trans (hb.mono hb1.out.size))
        have B4 := Lib.hid (hb2.out.trans (hb.mono hb2.out.size))
        clear hb HPA
        cases v1 with
        | true =>
          go_wp2_with fail
          refine (HHAS.out _).mono ?_
          rintro e w' ⟨rfl, rfl⟩
          rw [Bool.true_and] at HSN
          go_wp2_with fail
          go_roundw
          case rel => exact ⟨k + 1, hlt, by go_num, by rw [HSN.out], B3, B4⟩
          case measure => simp [intOf]; omega
        | false =>
          rw [Bool.false_and] at HSN
          go_wp2_with fail
          go_roundw
          case rel => exact ⟨k + 1, hlt, by go_num, by rw [HSN.out], B3, B4⟩
          case measure => simp [intOf]; omega
      · obtain rfl : k = L := by omega
        have htk : (mb m).take k = mb m := List.take_of_length_le (by rw [HL2.out]; exact Nat.le_refl _)
        rw [htk, mOf_mb M.out]
        have HH := Lib.hid (fun w => sa_has (x := g) G.out M.out w)
        obtain ⟨v, hv⟩ : ∃ v, hasM g m = v := ⟨_, rfl⟩
        rw [hv] at HH ⊢
        have hvq : (v == v) = true := by cases v <;> rfl
        have T3 := Lib.hid (T2.out.below hb2.out)
        clear htk hv hk hlt
        go_wp2_with fail
        refine (HH.out _).mono ?_
        rintro e w' ⟨rfl, rfl⟩
        go_wp2_with fail
        refine (tag_bits m M.out _ T3.out).mono ?_
        rintro e w6 ⟨⟨Ab, cb, rfl, hcb, hrb⟩, hb⟩
        rw [HL2.out]
        have B6 := hb1.out.trans (hb.mono hb1.out.size)
        go_wp2_with fail
        go_ret
        exact ⟨rfl, B6⟩
  · have ty : (y == 0) = false := beq_false_of_ne hy
    have hl := hl0 hy
    subst hl
    clear hl0 h64 HC hy
    rcases Bool.eq_false_or_eq_true (decide ((n : Int) > 80)) with t1 | t1
    · go_wp2_with fail
      go_ret
      exact ⟨rfl, B2.out⟩
    · go_wp2_with fail
      go_ret
      exact ⟨rfl, B2.out⟩
theorem topTagged_any (A : Option Addr) (n c : Nat) (ts : List (List Int)) (x y : Int) (hx : Word x) (hy : Word y) (w : World) (hS : SArg w A n c ts) (hT : Tz w) :
    Calls Tryd.prog 5 #[.slice A n c, .int .u64 x, .int .u64 y] w fun e w' => e = .returned (.bool true) ∧ Below w.heap.size w w' := by
  obtain ⟨m, rfl, hm⟩ := word_nat hx
  obtain ⟨g, rfl, hg⟩ := word_nat hy
  exact topTagged_walk A n c ts m g hm hg w hS hT
end Go.Proofs.YtokgcjhlmohjgaaDoor
