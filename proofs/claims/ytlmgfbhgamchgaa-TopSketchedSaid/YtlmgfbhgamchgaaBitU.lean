/- Walks of package bitset: how many; two sets put together. -/
import Derived.Test.YtlmgfbhgamchgaaBitV
namespace Go.Proofs.Ytlmgfbhgamchgaa
open Go.RowKit
theorem lst_words {ws : List Int} {i : Nat} (_hw : ∀ z ∈ ws, Word z) : (lst (hasB ws) ((i + 1) * 64)).length = (lst (hasB ws) (i * 64)).length + popN (wg ws i) := by
  rw [lst_word, List.length_append, pop_bits]
set_option maxRecDepth 100000 in
set_option maxHeartbeats 1000000 in
theorem bit_count (A : Option Addr) (m c L : Nat) (ws : List Int) (w : World) (hr : Rd w L A m (ws.map (.int .u64))) (hw : ∀ z ∈ ws, Word z) (hc : m ≤ c) (hz : A = none → c = 0) :
    Calls Try.prog 25 #[.slice A m c] w fun e w' => e = .returned (.int .i64 (listE ws).length) ∧ w = w' := by
  obtain ⟨k, hk⟩ : ∃ k, k = min m 64 := ⟨_, rfl⟩
  have hcut := fun w => bit_cut A m c k hk hc hz w
  have hlen := hr.lenI
  have HE : Hid ((lst (hasB ws) (k * 64)).length = (listE ws).length) := by show _ = _; rw [listE_cut ws k (by rw [hlen]; exact hk)]
  have HR := Lib.hid hr
  have hk64 : k ≤ 64 := by omega
  have hkm : k ≤ m := by omega
  clear hr hk hlen hz
  go_enter Try.func25, Try.ntmps25
  go_wp2_with (go_at_call 28; refine (hcut _).mono ?_; rintro e w' ⟨rfl, rfl⟩)
  go_loop [3, 9] (fun x i => ∃ j n : Nat, j ≤ k ∧ n ≤ 4096 ∧ i = .int .i64 j ∧ x = .int .i64 n ∧ Hid ((lst (hasB ws) (j * 64)).length = n)) (fun _ i => k - (intOf i).toNat)
  case atStart => exact ⟨0, 0, Nat.zero_le _, by decide, rfl, rfl, rfl⟩
  case round =>
    obtain ⟨j, n, hj, hn, rfl, rfl, hv⟩ := hrel
    by_cases hlt : j < k
    · obtain ⟨b, o, rfl, _, hcell⟩ := HR.out.atI (k := j) (by omega)
      obtain ⟨e, hlt2⟩ := wg_nat hw j
      have hst := lst_words (i := j) hw
      have hle := lst_len (hasB ws) ((j + 1) * 64)
      rw [e] at hcell
      obtain ⟨x, hx⟩ : ∃ x, wg ws j = x := ⟨_, rfl⟩
      rw [hx] at hcell hlt2 hst
      rw [hv.out] at hst
      have hp := pop_le x
      obtain ⟨p, hpp⟩ : ∃ p, popN x = p := ⟨_, rfl⟩
      have hone := fun w => bits_ones x hlt2 w
      rw [hpp] at hone hst hp
      have HS := Lib.hid hst
      have hn2 : n + p ≤ 4096 := by omega
      clear e hx hpp hst hle hlt2
      go_wp2_with (go_at_call 49; refine (hone _).mono ?_; rintro e w' ⟨rfl, rfl⟩)
      go_round
      case rel => exact ⟨j + 1, n + p, by omega, hn2, by go_num, by go_num, HS⟩
      case measure => simp [intOf]; omega
    · obtain rfl : j = k := by omega
      have HV : Hid ((listE ws).length = n) := by show _ = _; rw [← HE.out]; exact hv.out
      go_wp2
      go_ret
      exact ⟨ret_int (by rw [HV.out]), rfl⟩
/-- A word at a place that may lie behind the end. -/
theorem bit_at (A : Option Addr) (m c L i : Nat) (ws : List Int) (w : World) (hr : Rd w L A m (ws.map (.int .u64))) (_hi : i ≤ 9223372036854775807) :
    Calls Try.prog 62 #[.slice A m c, .int .i64 i] w fun e w' => e = .returned (.int .u64 (ig ws i)) ∧ w = w' := by
  by_cases h : i < m
  · obtain ⟨b, o, rfl, _, hcell⟩ := hr.atI h
    clear hr
    go_enter Try.func62, Try.ntmps62
    go_wp2
    go_ret
    exact ⟨rfl, rfl⟩
  · have h0 : Hid (ig ws i = 0) := ig_out (by rw [hr.lenI]; omega)
    have t : decide ((i : Int) < (m : Int)) = false := by simp; omega
    clear hr
    go_enter Try.func62, Try.ntmps62
    go_wp2
    go_ret
    exact ⟨ret_int h0.out.symm, rfl⟩
/-- Words put together, one by one. -/
def Both (op : Nat → Nat → Nat) (xs ys : List Int) (n : Nat) (cs : List Int) (q : Nat) : Prop :=
  cs.length = q ∧ (∀ z ∈ cs, Word z) ∧ (∀ i, i < n → ig cs i = (op (wg xs i) (wg ys i) : Nat)) ∧ ∀ i, n ≤ i → ig cs i = 0
theorem ig_take {l : List Int} {k i : Nat} (h : i < k) : ig (l.take k) i = ig l i := by
  rw [ig, ig, List.getD_eq_getElem?_getD, List.getD_eq_getElem?_getD, List.getElem?_take, if_pos h]
theorem rd_word {xs : List Int} {k : Nat} (h : ∀ z ∈ xs, Word z) : ∀ z ∈ xs.take k, Word z := fun z hz => h z (List.mem_of_mem_take hz)
set_option maxRecDepth 100000 in
set_option maxHeartbeats 2000000 in
theorem bit_both (f : Nat) (op : Nat → Nat → Nat) (bop : Bool → Bool → Bool) (hf : ∀ (x y : Nat) (w : World), x < 18446744073709551616 → y < 18446744073709551616 → Calls Try.prog f #[.int .u64 x, .int .u64 y] w fun e w' => e = .returned (.int .u64 (op x y : Nat)) ∧ w = w')
    (hop : ∀ x y, x < 18446744073709551616 → y < 18446744073709551616 → op x y < 18446744073709551616) (hbit : ∀ x y i, x < 18446744073709551616 → y < 18446744073709551616 → i < 64 → (op x y).testBit i = bop (x.testBit i) (y.testBit i)) (h00 : bop false false = false)
    (hcf : ∀ (x y : Nat) (w : World), Sem.run Try.prog (callFunc f #[.int .u64 x, .int .u64 y]) w = .ok (.enter f #[.int .u64 x, .int .u64 y]) w)
    (A : Option Addr) (m c : Nat) (xs : List Int) (B : Option Addr) (m' c' : Nat) (ys : List Int) (w : World) (hr : Rd w w.heap.size A m (xs.map (.int .u64))) (hr' : Rd w w.heap.size B m' (ys.map (.int .u64)))
    (hw : ∀ z ∈ xs, Word z) (hw' : ∀ z ∈ ys, Word z) (hc : m ≤ c) (hc' : m' ≤ c') (hz : A = none → c = 0) (hz' : B = none → c' = 0) :
    Calls Try.prog 50 #[.slice A m c, .slice B m' c', .func (.func f) #[] #[]] w (RetC (fun n => bop (hasB xs n) (hasB ys n)) w) := by
  obtain ⟨k, hk⟩ : ∃ k, k = min m 64 := ⟨_, rfl⟩
  obtain ⟨k', hk'⟩ : ∃ k, k = min m' 64 := ⟨_, rfl⟩
  have hcut := fun w => bit_cut A m c k hk hc hz w
  have hcut' := fun w => bit_cut B m' c' k' hk' hc' hz' w
  have hlx := hr.lenI
  have hly := hr'.lenI
  have hk64 : k ≤ 64 := by omega
  have hk64' : k' ≤ 64 := by omega
  obtain ⟨q, hq⟩ : ∃ q : Nat, max k k' = q := ⟨_, rfl⟩
  have hq' : max (k : Int) (k' : Int) = (q : Int) := by omega
  have hq64 : q ≤ 64 := by omega
  have hrk : Rd w w.heap.size A k ((xs.take k).map (.int .u64)) := by have := hr.take_ k (by omega); rw [← List.map_take] at this; exact this
  have hrk' : Rd w w.heap.size B k' ((ys.take k').map (.int .u64)) := by have := hr'.take_ k' (by omega); rw [← List.map_take] at this; exact this
  have HX : Hid (∀ i, i < 64 → ig (xs.take k) i = ig xs i) := fun i hi => by
    rcases Nat.lt_or_ge i k with r | r
    · exact ig_take r
    · rw [ig_out (by rw [List.length_take]; omega), ig_out (by omega)]
  have HY : Hid (∀ i, i < 64 → ig (ys.take k') i = ig ys i) := fun i hi => by
    rcases Nat.lt_or_ge i k' with r | r
    · exact ig_take r
    · rw [ig_out (by rw [List.length_take]; omega), ig_out (by omega)]
  have HO : Hid (∀ i, q ≤ i → i < 64 → ig xs i = 0 ∧ ig ys i = 0) := fun i h1 h2 => ⟨ig_out (by omega), ig_out (by omega)⟩
  have HR := Lib.hid hrk
  have HR' := Lib.hid hrk'
  have hmk := fun (kl kc : IntKind) => run_make_row' (P := Try.prog) 25 23 (.int .u64 0) 8 Try.underlying25 info_u64 rfl kl kc q (by omega) (by omega)
  clear hrk hrk' hr hr' hk hk' hlx hly hz hz' hq
  go_enter Try.func50, Try.ntmps50
  go_wp2_with fail
  refine (hcut _).mono ?_
  rintro e w' ⟨rfl, rfl⟩
  go_wp2_with fail
  refine (hcut' _).mono ?_
  rintro e w' ⟨rfl, rfl⟩
  go_wp2_with fail
  have I0 := Lib.hid (IB.made w 23 q .u64)
  have B0 : Below w.heap.size w (w.alloc (.cells (madeCells #[.int .u64 0] q) 23)) := (Below.refl _ _).alloc (Nat.le_refl _) _
  have U0 : Hid (Both op xs ys 0 (List.replicate q 0) q) := by
    refine ⟨by simp, fun z hz => ?_, fun i hi => by omega, fun i hi => ?_⟩
    · obtain ⟨_, rfl⟩ := List.mem_replicate.1 hz; exact ⟨by decide, by decide⟩
    · rw [ig, List.getD_eq_getElem?_getD, List.getElem?_replicate]; split <;> rfl
  obtain ⟨W, hW⟩ : ∃ W, w.alloc (.cells (madeCells #[.int .u64 0] q) 23) = W := ⟨_, rfl⟩
  rw [hW] at I0 B0 ⊢
  clear hmk hW hq'
  go_loopw [22] (fun i wr => ∃ (j : Nat) (cs : List Int), j ≤ q ∧ i = .int .i64 j ∧ Hid (IB wr w.heap.size 23 .u64 cs) ∧ Hid (Both op xs ys j cs q) ∧ Below w.heap.size w wr) (fun i _ => q - (intOf i).toNat)
  case atStart => exact ⟨0, _, Nat.zero_le _, rfl, I0, U0, B0⟩
  case round =>
    clear I0 U0 B0
    obtain ⟨j, cs, hj, rfl, I, U, hB⟩ := hrel
    by_cases hlt : j < q
    · have a1 := bit_at A k c _ j (xs.take k) _ (HR.out.below hB) (by omega)
      have a2 := bit_at B k' c' _ j (ys.take k') _ (HR'.out.below hB) (by omega)
      obtain ⟨e1, l1⟩ := wg_nat hw j
      obtain ⟨e2, l2⟩ := wg_nat hw' j
      rw [HX.out j (by omega), e1] at a1
      rw [HY.out j (by omega), e2] at a2
      have u1 := U.out.1
      have hfz := I.out.frozen j
      have hcl := I.out.cell (k := j) (by omega)
      have h3 := hf (wg xs j) (wg ys j) wr l1 l2
      have I2 := Lib.hid (I.out.set_ (k := j) (by omega) ((op (wg xs j) (wg ys j) : Nat) : Int))
      have U2 : Hid (Both op xs ys (j + 1) (cs.set j ((op (wg xs j) (wg ys j) : Nat) : Int)) q) := by
        obtain ⟨b1, b2, b3, b4⟩ := U.out
        refine ⟨by rw [List.length_set]; exact b1, fun z hz => ?_, fun i hi => ?_, fun i hi => ?_⟩
        · rcases List.mem_or_eq_of_mem_set hz with r | rfl
          · exact b2 z r
          · exact word_of_nat (hop _ _ l1 l2)
        · rw [ig_set (by omega)]
          split
          · rename_i h; subst h; rfl
          · exact b3 i (by omega)
        · rw [ig_set (by omega), if_neg (by omega)]; exact b4 i (by omega)
      have B2 := Lib.hid (hB.setCell (p := ⟨w.heap.size, j, none⟩) (Nat.le_refl _) (.int .u64 ((op (wg xs j) (wg ys j) : Nat) : Int)))
      obtain ⟨x, hx⟩ : ∃ x, wg xs j = x := ⟨_, rfl⟩
      obtain ⟨y, hy⟩ : ∃ y, wg ys j = y := ⟨_, rfl⟩
      rw [hx] at a1 h3 I2 U2 B2
      rw [hy] at a2 h3 I2 U2 B2
      have A1 := Lib.hid a1
      have A2 := Lib.hid a2
      have H3 := Lib.hid h3
      clear e1 e2 l1 l2 u1 a1 a2 h3 hx hy
      go_wp2_with fail
      refine A1.out.mono ?_
      rintro e w' ⟨rfl, rfl⟩
      go_wp2_with fail
      refine A2.out.mono ?_
      rintro e w' ⟨rfl, rfl⟩
      go_wp2_with fail
      refine H3.out.mono ?_
      rintro e w' ⟨rfl, rfl⟩
      go_wp2_with fail
      go_roundw
      case rel => exact ⟨j + 1, _, by omega, by go_num, I2, U2, B2.out⟩
      case measure => simp [intOf]; omega
    · obtain rfl : j = q := by omega
      have hrd := I.out.rd
      rw [U.out.1] at hrd
      have HU := U
      go_wp2_with fail
      refine (bit_short ⟨w.heap.size, 0, none⟩ j j _ cs _ hrd (Nat.le_refl _) (by omega)).mono ?_
      rintro e w' ⟨n, hn, rfl, hz, hlast, rfl⟩
      obtain ⟨v1, v2, v3, v4⟩ := HU.out
      have hcn := canon_short (p := fun n => bop (hasB xs n) (hasB ys n)) v2 (by omega) (fun n hn => by
        unfold hasB
        rcases Nat.lt_or_ge (n / 64) j with r | r
        · rw [show wg cs (n / 64) = op (wg xs (n / 64)) (wg ys (n / 64)) by unfold wg; rw [v3 _ r, Int.toNat_natCast]; rfl]
          exact hbit _ _ _ (wg_nat hw _).2 (wg_nat hw' _).2 (Nat.mod_lt _ (by decide))
        · obtain ⟨z1, z2⟩ := HO.out (n / 64) r (by omega)
          unfold wg
          rw [v4 _ r, z1, z2]; simp [h00]) (by omega) (fun j h1 h2 => hz j h1 (by omega)) hlast
      have hrt := hrd.take_ n hn
      rw [← List.map_take] at hrt
      clear hz v1 v3 v4
      go_wp2
      go_ret
      rw [← hcn.2] at hrt ⊢
      refine ⟨cs.take n, some ⟨w.heap.size, 0, none⟩, j, rfl, by omega, fun h => (by cases h), hcn.1, ?_, hB⟩
      rw [hcn.2] at hrt ⊢
      exact hrt
theorem bits_less (x y : Nat) (w : World) (hx : x < 18446744073709551616) (hy : y < 18446744073709551616) :
    Calls Try.prog 52 #[.int .u64 x, .int .u64 y] w fun e w' => e = .returned (.int .u64 (x &&& (18446744073709551615 - y) : Nat)) ∧ w = w' := by
  have h := u64_andNot_nat x y hx hy
  have H := Lib.hid h
  clear h
  go_enter Try.func52, Try.ntmps52
  go_wp2
  go_ret
  exact ⟨ret_int H.out, rfl⟩
theorem bit_less (A : Option Addr) (m c : Nat) (xs : List Int) (B : Option Addr) (m' c' : Nat) (ys : List Int) (w : World) (hr : Rd w w.heap.size A m (xs.map (.int .u64))) (hr' : Rd w w.heap.size B m' (ys.map (.int .u64)))
    (hw : ∀ z ∈ xs, Word z) (hw' : ∀ z ∈ ys, Word z) (hc : m ≤ c) (hc' : m' ≤ c') (hz : A = none → c = 0) (hz' : B = none → c' = 0) :
    Calls Try.prog 27 #[.slice A m c, .slice B m' c'] w (RetC (fun n => hasB xs n && !hasB ys n) w) := by
  have h := bit_both 52 (fun x y => x &&& (18446744073709551615 - y)) (fun a b => a && !b) (fun x y w hx hy => bits_less x y w hx hy)
    (fun x y hx _ => Nat.lt_of_le_of_lt Nat.and_le_left hx) (fun x y i _ hy hi => by
      show (x &&& (18446744073709551615 - y)).testBit i = _
      rw [Nat.testBit_and, show 18446744073709551615 - y = 2 ^ 64 - (y + 1) by omega, Nat.testBit_two_pow_sub_succ hy]
      simp [hi]) rfl (fun _ _ _ => by kernel_rfl) A m c xs B m' c' ys w hr hr' hw hw' hc hc' hz hz'
  have H := Lib.hid h
  clear h hr hr' hw hw' hz hz'
  go_enter Try.func27, Try.ntmps27
  go_wp2_with fail
  refine H.out.mono ?_
  rintro e w' ⟨ws, A', c'', rfl, h⟩
  go_wp2
  go_ret
  exact ⟨ws, A', c'', rfl, h⟩
theorem bits_union (x y : Nat) (w : World) (hx : x < 18446744073709551616) (hy : y < 18446744073709551616) :
    Calls Try.prog 51 #[.int .u64 x, .int .u64 y] w fun e w' => e = .returned (.int .u64 (x ||| y : Nat)) ∧ w = w' := by
  have h := u64_or_nat x y hx hy
  have H := Lib.hid h
  clear h
  go_enter Try.func51, Try.ntmps51
  go_wp2
  go_ret
  exact ⟨ret_int H.out, rfl⟩
theorem bit_union (A : Option Addr) (m c : Nat) (xs : List Int) (B : Option Addr) (m' c' : Nat) (ys : List Int) (w : World) (hr : Rd w w.heap.size A m (xs.map (.int .u64))) (hr' : Rd w w.heap.size B m' (ys.map (.int .u64)))
    (hw : ∀ z ∈ xs, Word z) (hw' : ∀ z ∈ ys, Word z) (hc : m ≤ c) (hc' : m' ≤ c') (hz : A = none → c = 0) (hz' : B = none → c' = 0) :
    Calls Try.prog 26 #[.slice A m c, .slice B m' c'] w (RetC (fun n => hasB xs n || hasB ys n) w) := by
  have h := bit_both 51 (fun x y => x ||| y) (fun a b => a || b) (fun x y w hx hy => bits_union x y w hx hy)
    (fun x y hx hy => Nat.or_lt_two_pow (n := 64) hx hy) (fun x y i _ _ _ => by
      show (x ||| y).testBit i = _
      rw [Nat.testBit_or]) rfl (fun _ _ _ => by kernel_rfl) A m c xs B m' c' ys w hr hr' hw hw' hc hc' hz hz'
  have H := Lib.hid h
  clear h hr hr' hw hw' hz hz'
  go_enter Try.func26, Try.ntmps26
  go_wp2_with fail
  refine H.out.mono ?_
  rintro e w' ⟨ws, A', c'', rfl, h⟩
  go_wp2
  go_ret
  exact ⟨ws, A', c'', rfl, h⟩
end Go.Proofs.Ytlmgfbhgamchgaa
