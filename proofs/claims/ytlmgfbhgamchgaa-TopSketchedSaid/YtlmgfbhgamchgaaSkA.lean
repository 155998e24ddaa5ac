/- Sketches: the signs of a vector. -/
import Derived.Test.YtlmgfbhgamchgaaBitU
import Derived.Test.YtlmgfbhgamchgaaRngW
namespace Go.Proofs.Ytlmgfbhgamchgaa
open Go.RowKit
/-- The sum of a vector's components, with a plane's signs. -/
def abS (v : List Int) (own : Int) : Nat → Int
  | 0 => 0
  | i + 1 => if bits .and .u64 (atI own i) 1 == 0 then wrap64 (abS v own i - ig v i) else wrap64 (abS v own i + ig v i)
def abB (v : List Int) (seed : Int) (p : Nat) : Bool := decide (0 ≤ abS v (atI seed p) v.length)
/-- A vector at hand. -/
structure VArg (w : World) (A : Option Addr) (n c : Nat) (v : List Int) : Prop where
  rd : Rd w w.heap.size A n (v.map (.int .i32))
  rng : ∀ k, -2147483648 ≤ ig v k ∧ ig v k ≤ 2147483647
  small : n ≤ 1048576
theorem VArg.below {w w' : World} {A : Option Addr} {n c : Nat} {v : List Int} (h : VArg w A n c v) (hb : Below w.heap.size w w') : VArg w' A n c v := ⟨(h.rd.below hb).more hb.size, h.rng, h.small⟩
set_option maxRecDepth 100000 in
theorem sk_above {w : World} {A : Option Addr} {n c : Nat} {v : List Int} (h : VArg w A n c v) (seed : Int) (p : Nat) (hp : p ≤ 4096) :
    Calls Try.prog 22 #[.slice A n c, .int .u64 seed, .int .i64 p] w fun e w' => e = .returned (.bool (abB v seed p)) ∧ w = w' := by
  have hcp : IntKind.u64.wrap (p : Int) = (p : Int) := by rw [wrap_u64]; omega
  have HL : Hid (v.length = n) := h.rd.lenI
  have hsm := h.small
  have H := Lib.hid h
  have HB : Hid (abB v seed p = decide (0 ≤ abS v (atI seed p) n)) := by show _ = _; unfold abB; rw [HL.out]
  obtain ⟨own, hown⟩ : ∃ x, atI seed p = x := ⟨_, rfl⟩
  rw [hown] at HB
  clear h
  go_enter Try.func22, Try.ntmps22
  go_wp2_with fail
  refine (rng_at seed p w).mono ?_
  rw [hown]
  rintro e w' ⟨rfl, rfl⟩
  clear hown hcp hp
  go_wp2_with fail
  go_loopw [7, 17] (fun s i wr => ∃ k : Nat, k ≤ n ∧ i = .int .i64 k ∧ s = .int .i64 (abS v own k) ∧ w = wr) (fun _ i _ => n - (intOf i).toNat)
  case atStart => exact ⟨0, Nat.zero_le _, rfl, rfl, rfl⟩
  case round =>
    obtain ⟨k, hk, rfl, rfl, rfl⟩ := hrel
    by_cases hlt : k < n
    · obtain ⟨b, o, rfl, hb, hc⟩ := H.out.rd.atI hlt
      have hck : IntKind.u64.wrap (k : Int) = (k : Int) := by rw [wrap_u64]; omega
      have hrg := H.out.rng k
      have hci : IntKind.i64.wrap (ig v k) = ig v k := by simp only [IntKind.wrap, IntKind.bits, IntKind.signed]; simp; omega
      obtain ⟨x, hx⟩ : ∃ x, ig v k = x := ⟨_, rfl⟩
      have HS : Hid (abS v own (k + 1) = if bits .and .u64 (atI own k) 1 == 0 then wrap64 (abS v own k - ig v k) else wrap64 (abS v own k + ig v k)) := rfl
      rw [hx] at HS hc hci hrg
      obtain ⟨s, hs⟩ : ∃ s, abS v own k = s := ⟨_, rfl⟩
      rw [hs] at HS ⊢
      obtain ⟨y, hy⟩ : ∃ y, atI own k = y := ⟨_, rfl⟩
      have HAT := fun w => rng_at own k w
      rw [hy] at HS HAT
      clear hx hs hy
      cases hbit : (bits .and .u64 y 1 == 0) with
      | true =>
        rw [hbit, if_pos rfl] at HS
        go_wp2_with fail
        refine (HAT _).mono ?_
        rintro e w' ⟨rfl, rfl⟩
        go_wp2_with fail
        go_roundw
        case rel => exact ⟨k + 1, hlt, by go_num, by rw [HS.out], trivial⟩
        case measure => simp [intOf]; omega
      | false =>
        rw [hbit, if_neg (by decide)] at HS
        go_wp2_with fail
        refine (HAT _).mono ?_
        rintro e w' ⟨rfl, rfl⟩
        go_wp2_with fail
        go_roundw
        case rel => exact ⟨k + 1, hlt, by go_num, by rw [HS.out], trivial⟩
        case measure => simp [intOf]; omega
    · obtain rfl : k = n := by omega
      go_wp2_with fail
      go_ret
      exact ⟨by rw [HB.out]; rfl, rfl⟩
/-- A set at hand. -/
structure SetAt (w : World) (p : Nat → Bool) (A : Option Addr) (n c : Nat) (ws : List Int) : Prop where
  len : ws.length = n
  cap : n ≤ c
  nil : A = none → c = 0
  can : Canon p ws
  rd : Rd w w.heap.size A n (ws.map (.int .u64))
theorem SetAt.below {w w' : World} {p : Nat → Bool} {A : Option Addr} {n c : Nat} {ws : List Int} (h : SetAt w p A n c ws) (hb : Below w.heap.size w w') : SetAt w' p A n c ws := ⟨h.len, h.cap, h.nil, h.can, (h.rd.below hb).more hb.size⟩
theorem SetAt.congr {w : World} {p q : Nat → Bool} {A : Option Addr} {n c : Nat} {ws : List Int} (h : SetAt w p A n c ws) (e : ∀ n, n < 4096 → p n = q n) : SetAt w q A n c ws := ⟨h.len, h.cap, h.nil, canon_congr h.can e, h.rd⟩
def RetT (p : Nat → Bool) (w : World) (e : Ending) (w' : World) : Prop := (∃ A n c ws, e = .returned (.slice A n c) ∧ SetAt w' p A n c ws) ∧ Below w.heap.size w w'
theorem RetC.at_ {p q : Nat → Bool} {w w' : World} {e : Ending} (h : RetC p w e w') (hq : ∀ n, n < 4096 → p n = q n) : RetT q w e w' := by
  obtain ⟨ws, A, c, he, h1, h2, h3, h4, h5⟩ := h
  exact ⟨⟨A, ws.length, c, ws, he, ⟨rfl, h1, h2, canon_congr h3 hq, h4⟩⟩, h5⟩
/-- The planes below N that a vector lies above. -/
def abN (v : List Int) (seed : Int) (N n : Nat) : Bool := decide (n < N) && abB v seed n
theorem inL_lst (p : Nat → Bool) (N n : Nat) : inL (lst p N) n = (decide (n < N) && p n) := by
  unfold inL
  rw [Bool.eq_iff_iff, decide_eq_true_iff, mem_lst]
  simp
  constructor
  · rintro ⟨m, e, h1, h2⟩
    have : n = m := by omega
    subst this
    exact ⟨h1, h2⟩
  · rintro ⟨h1, h2⟩
    exact ⟨n, rfl, h1, h2⟩
set_option maxRecDepth 100000 in
set_option maxHeartbeats 1000000 in
theorem sk_of {w : World} {A : Option Addr} {n c : Nat} {v : List Int} (h : VArg w A n c v) (seed : Int) (N : Nat) (hN : N ≤ 4096) :
    Calls Try.prog 6 #[.slice A n c, .int .u64 seed, .int .i64 N] w (RetT (abN v seed N) w) := by
  have H := Lib.hid h
  have tm : max (N : Int) 0 = N := by omega
  have tn : min (N : Int) 4096 = N := by omega
  have HN := Lib.hid hN
  clear h hN
  go_enter Try.func6, Try.ntmps6
  go_wp2_with fail
  go_loopw [7, 12] (fun v7 i wr => ∃ (k m : Nat) (B : Option Addr) (d : Nat) (cs : List Int), k ≤ N ∧ m ≤ k ∧ i = .int .i64 k ∧ v7 = .slice B m d ∧ Hid (cs = lst (abB v seed) k) ∧ Hid (wr.ownsRow w.heap.size 3 1 (.slice B m d) m (cs.map (.int .i64))) ∧ Hid (Below w.heap.size w wr)) (fun _ i _ => N - (intOf i).toNat)
  case atStart => exact ⟨0, 0, none, 0, [], Nat.zero_le _, Nat.le_refl _, by go_num, rfl, rfl, World.ownsRow_nil _ _ _ _, Below.refl _ _⟩
  case round =>
    obtain ⟨k, m, B, d, cs, hk, hm, rfl, rfl, hcs, hown, hb⟩ := hrel
    have hN := HN.out
    have hown' := hown.out
    have hsz := hb.out.size
    by_cases hlt : k < N
    · have HAB := Lib.hid (sk_above (H.out.below hb.out) seed k (by omega))
      have hsucc := lst_succ (abB v seed) k
      cases hh : abB v seed k with
      | false =>
        rw [hh] at HAB hsucc
        have HS : Hid (cs = lst (abB v seed) (k + 1)) := by show _ = _; rw [hsucc, hcs.out]; simp
        clear hh hsucc
        go_wp2_with fail
        refine HAB.out.mono ?_
        rintro e w' ⟨rfl, rfl⟩
        go_wp2_with fail
        go_roundw
        case rel => exact ⟨k + 1, m, B, d, cs, by omega, by omega, by go_num, rfl, HS, hown, hb⟩
        case measure => simp [intOf]; omega
      | true =>
        rw [hh] at HAB hsucc
        have HS : Hid (cs ++ [(k : Int)] = lst (abB v seed) (k + 1)) := by show _ = _; rw [hsucc, hcs.out]; simp
        clear hh hsucc
        go_wp2_with fail
        refine HAB.out.mono ?_
        rintro e w' ⟨rfl, rfl⟩
        go_wp2_with (at_builtin; refine wpList_push rfl (.tmp 19) (.tmp 21) _ rfl w.heap.size 3 .i64 8 (by decide) Try.underlying30 info_int wr B m d cs _ rfl hown' rfl (by omega) hsz ?_; intro g' c' w' hown2 hb2)
        have HB2 := Lib.hid (hb.out.trans hb2)
        have HO2 := Lib.hid hown2
        go_roundw
        case rel => exact ⟨k + 1, m + 1, _, c', _, by omega, by omega, by go_num, rfl, HS, HO2, HB2⟩
        case measure => simp [intOf]; omega
    · obtain rfl : k = N := by omega
      have hrd := Rd.of_own hown'
      have hl : cs = lst (abB v seed) k := hcs.out
      rw [hl] at hrd
      have hbd : ∀ z ∈ lst (abB v seed) k, -9223372036854775808 ≤ z ∧ z ≤ 9223372036854775807 := fun z hz => by
        obtain ⟨y, rfl, hy, _⟩ := mem_lst.1 hz
        omega
      have HOF := Lib.hid (bit_of B m d wr.heap.size (lst (abB v seed) k) hbd wr hrd (Nat.le_refl _) (by omega))
      clear hown' hsz hrd hl hbd
      go_wp2_with fail
      refine HOF.out.mono ?_
      intro e w2 hR
      obtain ⟨⟨A2, n2, c2, ws2, rfl, hs2⟩, hb2⟩ := hR.at_ (q := abN v seed k) (fun n _ => inL_lst _ _ _)
      have HS2 := Lib.hid hs2
      have HB2 := Lib.hid (hb.out.trans (hb2.mono hb.out.size))
      clear hR hs2 hb2
      go_wp2_with fail
      go_ret
      exact ⟨⟨A2, n2, c2, ws2, rfl, HS2.out⟩, HB2.out⟩
/-- How many numbers are in one of two sets alone. -/
def apN (p q : Nat → Bool) : Nat := (lst (fun n => (p n && !q n) || (q n && !p n)) 4096).length
set_option maxRecDepth 100000 in
theorem sk_apart {w : World} {p q : Nat → Bool} {A B : Option Addr} {n c m d : Nat} {ws vs : List Int} (h1 : SetAt w p A n c ws) (h2 : SetAt w q B m d vs) :
    Calls Try.prog 8 #[.slice A n c, .slice B m d] w fun e w' => e = .returned (.int .i64 (apN p q)) ∧ Below w.heap.size w w' := by
  have H1 := Lib.hid h1
  have H2 := Lib.hid h2
  have hL1 := Lib.hid (bit_less A n c ws B m d vs w h1.rd h2.rd h1.can.1 h2.can.1 h1.cap h2.cap h1.nil h2.nil)
  clear h1 h2
  go_enter Try.func8, Try.ntmps8
  go_wp2_with fail
  refine hL1.out.mono ?_
  intro e w1 hR
  obtain ⟨⟨A1, n1, c1, ws1, rfl, hs1⟩, hb1⟩ := hR.at_ (q := fun n => p n && !q n) (fun n hn => by rw [H1.out.can.2.2.1 n hn, H2.out.can.2.2.1 n hn])
  have K1 := Lib.hid (H1.out.below hb1)
  have K2 := Lib.hid (H2.out.below hb1)
  have B1 := Lib.hid hb1
  have S1 := Lib.hid hs1
  clear hR hs1 hb1 hL1 H1 H2
  go_wp2_with fail
  refine (bit_less B m d vs A n c ws w1 K2.out.rd K1.out.rd K2.out.can.1 K1.out.can.1 K2.out.cap K1.out.cap K2.out.nil K1.out.nil).mono ?_
  intro e w2 hR
  obtain ⟨⟨A2, n2, c2, ws2, rfl, hs2⟩, hb2⟩ := hR.at_ (q := fun n => q n && !p n) (fun n hn => by rw [K1.out.can.2.2.1 n hn, K2.out.can.2.2.1 n hn])
  have B2 := Lib.hid (B1.out.trans (hb2.mono B1.out.size))
  have S2 := Lib.hid hs2
  have S1' := Lib.hid (S1.out.below hb2)
  clear hR hs2 hb2 K1 K2 S1 B1
  go_wp2_with fail
  refine (bit_union A1 n1 c1 ws1 A2 n2 c2 ws2 w2 S1'.out.rd S2.out.rd S1'.out.can.1 S2.out.can.1 S1'.out.cap S2.out.cap S1'.out.nil S2.out.nil).mono ?_
  intro e w3 hR
  obtain ⟨⟨A3, n3, c3, ws3, rfl, hs3⟩, hb3⟩ := hR.at_ (q := fun n => (p n && !q n) || (q n && !p n)) (fun n hn => by rw [S1'.out.can.2.2.1 n hn, S2.out.can.2.2.1 n hn])
  have B3 := Lib.hid (B2.out.trans (hb3.mono B2.out.size))
  have S3 := Lib.hid hs3
  clear hR hs3 hb3 S1' S2 B2
  go_wp2_with fail
  have hle : (listE ws3).length = apN p q := by
    unfold listE apN
    rw [lst_congr fun n hn => S3.out.can.2.2.1 n hn]
  have hcnt := bit_count A3 n3 c3 w3.heap.size ws3 w3 S3.out.rd S3.out.can.1 S3.out.cap S3.out.nil
  rw [hle] at hcnt
  refine hcnt.mono ?_
  rintro e w' ⟨rfl, rfl⟩
  clear hcnt hle
  go_wp2_with fail
  go_ret
  exact ⟨rfl, B3.out⟩
theorem apN_same {p q : Nat → Bool} (h : ∀ n, n < 4096 → p n = q n) : apN p q = 0 := by
  unfold apN
  rw [lst_congr (q := fun _ => false) fun n hn => by rw [h n hn]; cases q n <;> rfl]
  simp [lst]
theorem lst_mono {p q : Nat → Bool} (h : ∀ n, p n = true → q n = true) (N : Nat) : (lst p N).length ≤ (lst q N).length := by
  unfold lst
  rw [List.length_map, List.length_map]
  rw [← List.countP_eq_length_filter, ← List.countP_eq_length_filter]
  exact List.countP_mono_left fun x _ hx => h x hx
theorem apN_grow {a b : List Int} {seed : Int} {N M : Nat} (h : N ≤ M) : apN (abN a seed N) (abN b seed N) ≤ apN (abN a seed M) (abN b seed M) := by
  unfold apN
  refine lst_mono (fun n hn => ?_) 4096
  unfold abN at hn ⊢
  by_cases g : n < N
  · rw [decide_eq_true g] at hn
    rw [decide_eq_true (by omega)]; exact hn
  · rw [decide_eq_false g] at hn
    simp at hn
theorem apN_le {a b : List Int} {seed : Int} {M : Nat} (h : M ≤ 4096) : apN (abN a seed M) (abN b seed M) ≤ M := by
  unfold apN
  rw [lst_stop h fun n h1 _ => by unfold abN; rw [decide_eq_false (by omega)]; rfl]
  exact lst_len _ _
end Go.Proofs.Ytlmgfbhgamchgaa
