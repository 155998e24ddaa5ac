/- Walks of package bitset: what is short; the set of numbers; how many. -/
import Derived.Test.YtlmgfbhgamchgaaBitW
import Derived.Deep.DeepCutAuto
import Derived.StillTailTactics
namespace Go.Proofs.Ytlmgfbhgamchgaa
open Go.RowKit
/-- What 'short' tells of a list of words: so many of them, the last one not 0, and 0 behind it. -/
def ShortRet (ws : List Int) (m c : Nat) (a : Addr) (w : World) (e : Ending) (w' : World) : Prop :=
  ∃ k, k ≤ m ∧ e = .returned (.slice (some a) k c) ∧ (∀ j, k ≤ j → j < m → ig ws j = 0) ∧ (k = 0 ∨ ig ws (k - 1) ≠ 0) ∧ w = w'
set_option maxRecDepth 100000 in
set_option maxHeartbeats 1000000 in
theorem bit_short (a : Addr) (m c L : Nat) (ws : List Int) (w : World) (hr : Rd w L (some a) m (ws.map (.int .u64))) (hc : m ≤ c) (hm : m ≤ 4096) :
    Calls Try.prog 48 #[.slice (some a) m c] w (ShortRet ws m c a w) := by
  have HR := Lib.hid hr
  clear hr
  go_enter Try.func48, Try.ntmps48
  go_wp2
  go_loop [3] (fun x => ∃ k : Nat, k ≤ m ∧ x = .int .i64 k ∧ Hid (∀ j, k ≤ j → j < m → ig ws j = 0)) (fun x => (intOf x).toNat)
  case atStart => exact ⟨m, Nat.le_refl _, rfl, fun j h1 h2 => by omega⟩
  case round =>
    obtain ⟨k, hk, rfl, hz⟩ := hrel
    by_cases h0 : k = 0
    · subst h0
      go_wp2
      go_ret
      exact ⟨0, Nat.zero_le _, rfl, hz.out, Or.inl rfl, rfl⟩
    · obtain ⟨j, rfl⟩ : ∃ j, k = j + 1 := ⟨k - 1, by omega⟩
      obtain ⟨b, o, hA, _, hcell⟩ := HR.out.atI (k := j) (by omega)
      obtain rfl : a = ⟨b, o, none⟩ := by injection hA
      have t0 : decide (0 < j + 1) = true := by simp
      by_cases hzero : ig ws j = 0
      · rw [hzero] at hcell
        have HZ : Hid (∀ i, j ≤ i → i < m → ig ws i = 0) := fun i h1 h2 => by
          rcases Nat.lt_or_ge j i with q | q
          · exact hz.out i q h2
          · obtain rfl : i = j := by omega
            exact hzero
        clear hzero hA h0
        go_wp2
        go_round
        case rel => exact ⟨j, by omega, by go_num, HZ⟩
        case measure => simp [intOf]
      · have t1 : (ig ws j == 0) = false := by simpa using hzero
        have HN := Lib.hid hzero
        clear hzero hA h0
        go_wp2
        go_ret
        exact ⟨j + 1, by omega, rfl, hz.out, Or.inr HN.out, rfl⟩
theorem canon_short {p : Nat → Bool} {cs : List Int} {k : Nat} (hw : ∀ z ∈ cs, Word z) (hq : cs.length ≤ 64) (hp : ∀ n, n < 4096 → hasB cs n = p n) (hk : k ≤ cs.length) (hz : ∀ j, k ≤ j → j < cs.length → ig cs j = 0) (hl : k = 0 ∨ ig cs (k - 1) ≠ 0) :
    Canon p (cs.take k) ∧ (cs.take k).length = k := by
  have hlen : (cs.take k).length = k := by rw [List.length_take]; omega
  refine ⟨⟨fun z h => hw z (List.mem_of_mem_take h), by omega, fun n hn => ?_, ?_⟩, hlen⟩
  · rw [← hp n hn]
    rcases Nat.lt_or_ge (n / 64) k with q | q
    · exact hasB_take q
    · rw [hasB_out (by omega)]
      unfold hasB wg
      rcases Nat.lt_or_ge (n / 64) cs.length with r | r
      · rw [hz _ q r]; simp
      · rw [ig_out r]; simp
  · by_cases hk0 : k = 0
    · left; subst hk0; simp
    · right
      rw [hlen]
      have : ig (cs.take k) (k - 1) = ig cs (k - 1) := by
        rw [ig, ig, List.getD_eq_getElem?_getD, List.getD_eq_getElem?_getD, List.getElem?_take, if_pos (by omega)]
      rw [this]
      rcases hl with h | h
      · exact absurd h hk0
      · exact h
/-- A set of words in memory, of its own. -/
def RetC (p : Nat → Bool) (w : World) (e : Ending) (w' : World) : Prop :=
  ∃ ws A c, e = .returned (.slice A ws.length c) ∧ ws.length ≤ c ∧ (A = none → c = 0) ∧ Canon p ws ∧ Rd w' w'.heap.size A ws.length (ws.map (.int .u64)) ∧ Below w.heap.size w w'
theorem hasB_set {cs : List Int} {i n : Nat} {v : Int} (hi : i < cs.length) : hasB (cs.set i v) n = if i = n / 64 then v.toNat.testBit (n % 64) else hasB cs n := by
  unfold hasB wg
  rw [ig_set hi]
  split <;> rfl
def inL (l : List Int) (n : Nat) : Bool := decide ((n : Int) ∈ l)
/-- What the loop over the numbers has made of the words. -/
def OrInv (cs : List Int) (q : Nat) (l : List Int) (k : Nat) : Prop := cs.length = q ∧ (∀ z ∈ cs, Word z) ∧ ∀ n, n < 4096 → hasB cs n = inL (l.take k) n
theorem OrInv.skip {cs : List Int} {q : Nat} {l : List Int} {k : Nat} (h : OrInv cs q l k) (hk : k < l.length) (hx : ig l k < 0 ∨ 4096 ≤ ig l k) : OrInv cs q l (k + 1) := by
  refine ⟨h.1, h.2.1, fun n hn => ?_⟩
  rw [h.2.2 n hn, take_step hk]
  unfold inL
  rw [decide_eq_decide, List.mem_append, List.mem_singleton]
  constructor
  · exact Or.inl
  · rintro (h | h)
    · exact h
    · omega
theorem or_bit (x r : Nat) (hx : x < 18446744073709551616) (hr : r < 64) : x ||| 2 ^ r < 18446744073709551616 :=
  Nat.or_lt_two_pow (n := 64) hx (Nat.pow_lt_pow_right (by decide) hr)
theorem OrInv.put {cs : List Int} {q : Nat} {l : List Int} {k x : Nat} (h : OrInv cs q l k) (hk : k < l.length) (hx : ig l k = x) (_hx : x < 4096) (hq : x / 64 < q) :
    OrInv (cs.set (x / 64) ((wg cs (x / 64) ||| 2 ^ (x % 64) : Nat) : Int)) q l (k + 1) := by
  obtain ⟨h1, h2, h3⟩ := h
  refine ⟨by rw [List.length_set]; exact h1, fun z hz => ?_, fun n hn => ?_⟩
  · rcases List.mem_or_eq_of_mem_set hz with q | rfl
    · exact h2 z q
    · exact word_of_nat (or_bit _ _ (wg_nat h2 _).2 (Nat.mod_lt _ (by decide)))
  · rw [hasB_set (by omega), take_step hk, hx]
    have e : inL (l.take k ++ [(x : Int)]) n = (inL (l.take k) n || decide (n = x)) := by
      unfold inL
      rw [← Bool.decide_or, decide_eq_decide, List.mem_append, List.mem_singleton]
      constructor
      · rintro (h | h)
        · exact Or.inl h
        · exact Or.inr (by omega)
      · rintro (h | h)
        · exact Or.inl h
        · exact Or.inr (by omega)
    rw [e, ← h3 n hn]
    split
    · rename_i hd
      rw [Int.toNat_natCast, Nat.testBit_or, Nat.testBit_two_pow, hasB, hd]
      congr 1
      rw [decide_eq_decide]
      omega
    · rename_i hd
      rw [show decide (n = x) = false from decide_eq_false (fun e => hd (by rw [e])), Bool.or_false]
set_option maxRecDepth 100000 in
set_option maxHeartbeats 2000000 in
theorem bit_of (A : Option Addr) (m c L : Nat) (l : List Int) (hb : ∀ z ∈ l, -9223372036854775808 ≤ z ∧ z ≤ 9223372036854775807) (w : World) (hr : Rd w L A m (l.map (.int .i64))) (hL : L ≤ w.heap.size) (hm : m ≤ 1000000) :
    Calls Try.prog 23 #[.slice A m c] w (RetC (inL l) w) := by
  have HR := Lib.hid hr
  have HL : Hid (l.length = m) := hr.lenI
  clear hr
  go_enter Try.func23, Try.ntmps23
  go_wp2
  go_loop [3, 11] (fun x i => ∃ k M : Nat, k ≤ m ∧ M ≤ 4096 ∧ x = .int .i64 M ∧ i = .int .i64 k ∧ Hid (∀ j, j < k → ig l j < 4096 → ig l j + 1 ≤ M)) (fun _ i => m - (intOf i).toNat)
  case atStart => exact ⟨0, 0, Nat.zero_le _, by decide, rfl, rfl, fun j hj => by omega⟩
  case round =>
    obtain ⟨k, M, hk, hM, rfl, rfl, hv⟩ := hrel
    by_cases hlt : k < m
    · obtain ⟨b, o, rfl, hb0, hc⟩ := HR.out.atI hlt
      obtain ⟨z, hz⟩ : ∃ z, ig l k = z := ⟨_, rfl⟩
      have hzb := hb z (by rw [← hz]; rw [ig, List.getD_eq_getElem?_getD, List.getElem?_eq_getElem (by rw [HL.out]; exact hlt)]; simp)
      rw [hz] at hc
      have HZ := Lib.hid hz
      have z1 := hzb.1
      have z2 := hzb.2
      clear hz hzb
      by_cases h1 : z < 4096
      · obtain ⟨M', hM'⟩ : ∃ M' : Nat, max (M : Int) (z + 1) = M' := ⟨(max (M : Int) (z + 1)).toNat, by omega⟩
        have HV : Hid (∀ j, j < k + 1 → ig l j < 4096 → ig l j + 1 ≤ M') := fun j hj hjl => by
          rcases Nat.lt_or_ge j k with q | q
          · have := hv.out j q hjl; omega
          · obtain rfl : j = k := by omega
            rw [HZ.out]; omega
        have hm4 : M' ≤ 4096 := by omega
        go_wp2
        go_round
        case rel => exact ⟨k + 1, M', by omega, hm4, by first | rfl | rw [hM'], by go_num, HV⟩
        case measure => simp [intOf]; omega
      · have t1 : decide (z < 4096) = false := by simp; omega
        have HV : Hid (∀ j, j < k + 1 → ig l j < 4096 → ig l j + 1 ≤ M) := fun j hj hjl => by
          rcases Nat.lt_or_ge j k with q | q
          · exact hv.out j q hjl
          · obtain rfl : j = k := by omega
            rw [HZ.out] at hjl; omega
        clear h1
        go_wp2
        go_round
        case rel => exact ⟨k + 1, M, by omega, hM, rfl, by go_num, HV⟩
        case measure => simp [intOf]; omega
    · obtain rfl : k = m := by omega
      obtain ⟨q, hq⟩ : ∃ q : Nat, (M + 63) / 64 = q := ⟨_, rfl⟩
      have hq' : ((M : Int) + 64 - 1) / 64 = q := by omega
      have hq64 : q ≤ 64 := by omega
      have HQ : Hid (∀ j, j < k → 0 ≤ ig l j → ig l j < 4096 → (ig l j).toNat / 64 < q) := fun j hj h0 h1 => by
        have := hv.out j hj h1; omega
      have hmk := fun (kl kc : IntKind) => run_make_row' (P := Try.prog) 25 23 (.int .u64 0) 8 Try.underlying25 info_u64 rfl kl kc q (by omega) (by omega)
      clear hq hv
      go_wp2
      have I0 := Lib.hid (IB.made w 23 q .u64)
      have B0 : Below w.heap.size w (w.alloc (.cells (madeCells #[.int .u64 0] q) 23)) := (Below.refl _ _).alloc (Nat.le_refl _) _
      have U0 : Hid (OrInv (List.replicate q 0) q l 0) := by
        refine ⟨by simp, fun z hz => ?_, fun n hn => ?_⟩
        · obtain ⟨_, rfl⟩ := List.mem_replicate.1 hz; exact ⟨by decide, by decide⟩
        · have e : wg (List.replicate q 0) (n / 64) = 0 := by unfold wg ig; rw [List.getD_eq_getElem?_getD, List.getElem?_replicate]; split <;> rfl
          unfold hasB inL
          rw [e]; simp
      obtain ⟨W, hW⟩ : ∃ W, w.alloc (.cells (madeCells #[.int .u64 0] q) 23) = W := ⟨_, rfl⟩
      rw [hW] at I0 B0 ⊢
      clear hmk hW
      go_loopw [29] (fun i wr => ∃ (j : Nat) (cs : List Int), j ≤ k ∧ i = .int .i64 j ∧ Hid (IB wr w.heap.size 23 .u64 cs) ∧ Hid (OrInv cs q l j) ∧ Below w.heap.size w wr) (fun i _ => k - (intOf i).toNat)
      case atStart => exact ⟨0, _, Nat.zero_le _, rfl, I0, U0, B0⟩
      case round =>
        clear I0 U0 B0
        obtain ⟨j, cs, hj, rfl, I, U, hB⟩ := hrel
        have u1 := U.out.1
        by_cases hlt2 : j < k
        · obtain ⟨b, o, rfl, hb0, hc0⟩ := HR.out.atI hlt2
          have hc := (hB.cell (p := ⟨b, o + j, none⟩) (Nat.lt_of_lt_of_le hb0 hL)).trans hc0
          have hjl : j < l.length := by rw [HL.out]; exact hlt2
          by_cases hx : 0 ≤ ig l j ∧ ig l j < 4096
          · obtain ⟨x, hxe⟩ := Int.eq_ofNat_of_zero_le hx.1
            have hx4 : x < 4096 := by omega
            have hxq := HQ.out j hlt2 hx.1 hx.2
            rw [hxe, Int.toNat_natCast] at hxq
            have U2 := U.out.put hjl hxe hx4 hxq
            have hwn := wg_nat U.out.2.1 (x / 64)
            have hcell := I.out.cell (k := x / 64) (by omega)
            rw [hwn.1] at hcell
            have hfz := I.out.frozen (x / 64)
            have I2 := I.out.set_ (k := x / 64) (by omega) (((wg cs (x / 64) ||| 2 ^ (x % 64)) : Nat) : Int)
            rw [hxe] at hc
            obtain ⟨d, hd⟩ : ∃ d, x / 64 = d := ⟨_, rfl⟩
            obtain ⟨r, hr'⟩ : ∃ r, x % 64 = r := ⟨_, rfl⟩
            have hd' : (x : Int) / 64 = (d : Int) := by omega
            have hr'' : (x : Int) % 64 = (r : Int) := by omega
            have hr64 : r < 64 := by omega
            rw [hd] at hcell hfz hxq
            rw [hd, hr'] at U2 I2
            rw [hd] at hwn
            obtain ⟨y, hy⟩ : ∃ y, wg cs d = y := ⟨_, rfl⟩
            rw [hy] at hcell hwn U2 I2
            have hor : bits .or .u64 (y : Int) (IntKind.u64.wrap (2 ^ r)) = ((y ||| 2 ^ r : Nat) : Int) := by
              have h2 : 2 ^ r < 18446744073709551616 := Nat.pow_lt_pow_right (a := 2) (by decide) hr64
              rw [show (2 ^ r : Int) = ((2 ^ r : Nat) : Int) by simp, wrap_nat, Nat.mod_eq_of_lt h2, u64_or_nat _ _ hwn.2 h2]
            have HU := Lib.hid U2
            have HI := Lib.hid I2
            have HOR := Lib.hid hor
            have B2 := hB.setCell (p := ⟨w.heap.size, d, none⟩) (Nat.le_refl _) (.int .u64 ((y ||| 2 ^ r : Nat) : Int))
            have HB := Lib.hid B2
            clear hx hxe hd hr' hwn hy U2 I2 hor u1 hc0 B2
            go_wp2
            have hw1 : IntKind.i64.wrap (d : Int) = (d : Int) := IntWalk.i64_in _ (by omega)
            have hw2 : IntKind.i64.wrap (r : Int) = (r : Int) := IntWalk.i64_in _ (by omega)
            have hw3 : (x : Int).tmod 64 = (r : Int) := by rw [← hr'']; exact Int.tmod_eq_emod_of_nonneg (by omega)
            have hw4 : (x : Int).tdiv 64 = (d : Int) := by rw [← hd']; exact Int.tdiv_eq_ediv_of_nonneg (by omega)
            have b1 : (0 : Int) ≤ (d : Int) := by omega
            have b2 : (d : Int) < (q : Int) := by omega
            go_still_tail 10, (by kernel_rfl)
            change wpList _ _ _ _ _ wr.drew
            go_wp2
            clear hw1 hw2 hw3 hw4
            rw [HOR.out]
            go_roundw
            case rel => exact ⟨j + 1, _, by omega, by go_num, HI, HU, below_drewN HB.out 1⟩
            case measure => simp [intOf]; omega
          · have U2 := Lib.hid (U.out.skip hjl (by omega))
            obtain ⟨z, hz⟩ : ∃ z, ig l j = z := ⟨_, rfl⟩
            rw [hz] at hc hx
            clear hz u1 hc0
            by_cases hz0 : 0 ≤ z
            · have t1 : decide (z < 4096) = false := by simp; omega
              clear hx
              go_wp2
              go_roundw
              case rel => exact ⟨j + 1, _, by omega, by go_num, I, U2, hB⟩
              case measure => simp [intOf]; omega
            · have t1 : decide (0 ≤ z) = false := by simp; omega
              clear hx hz0
              go_wp2
              go_roundw
              case rel => exact ⟨j + 1, _, by omega, by go_num, I, U2, hB⟩
              case measure => simp [intOf]; omega
        · obtain rfl : j = k := by omega
          have hall : l.take j = l := by rw [← HL.out, List.take_length]
          have hrd := I.out.rd
          rw [u1] at hrd
          have HU := U
          clear u1
          go_wp2_with fail
          refine (bit_short ⟨w.heap.size, 0, none⟩ q q _ cs _ hrd (Nat.le_refl _) (by omega)).mono ?_
          rintro e w' ⟨n, hn, rfl, hz, hlast, rfl⟩
          obtain ⟨v1, v2, v3⟩ := HU.out
          have hcn := canon_short (p := inL l) v2 (by omega) (fun n hn => by rw [v3 n hn, hall]) (by omega) (fun j h1 h2 => hz j h1 (by omega)) hlast
          have hrt := hrd.take_ n hn
          rw [← List.map_take] at hrt
          clear hz hall v1 v3
          go_wp2
          go_ret
          rw [← hcn.2] at hrt ⊢
          refine ⟨cs.take n, some ⟨w.heap.size, 0, none⟩, q, rfl, by omega, fun h => (by cases h), hcn.1, ?_, hB⟩
          rw [hcn.2] at hrt ⊢
          exact hrt
end Go.Proofs.Ytlmgfbhgamchgaa
