/- Walk of the law TopPlaces. -/
import Derived.Test.YtlfblckniikdiaaTop01
import Derived.Deep.DeepCutAuto
namespace Go.Proofs.Ytlfblckniikdiaa
open Go.RowKit
theorem fields3 (a b c : Nat) (i j k : Int) (hi : a < 2 ^ i.toNat) (hj : b < 2 ^ j.toNat) (hk : c < 2 ^ k.toNat) : fieldsF (a + 2 ^ i.toNat * (b + 2 ^ j.toNat * c)) [i, j, k] = [(a : Int), b, c] := by
  have e1 : (a + 2 ^ i.toNat * (b + 2 ^ j.toNat * c)) % 2 ^ i.toNat = a := by rw [Nat.add_mul_mod_self_left, Nat.mod_eq_of_lt hi]
  have e2 : (a + 2 ^ i.toNat * (b + 2 ^ j.toNat * c)) / 2 ^ i.toNat = b + 2 ^ j.toNat * c := by rw [Nat.add_mul_div_left _ _ (Nat.two_pow_pos _), Nat.div_eq_of_lt hi, Nat.zero_add]
  have e3 : (b + 2 ^ j.toNat * c) % 2 ^ j.toNat = b := by rw [Nat.add_mul_mod_self_left, Nat.mod_eq_of_lt hj]
  have e4 : (b + 2 ^ j.toNat * c) / 2 ^ j.toNat = c := by rw [Nat.add_mul_div_left _ _ (Nat.two_pow_pos _), Nat.div_eq_of_lt hj, Nat.zero_add]
  rw [fieldsF, fieldsF, fieldsF, fieldsF, e1, e2, e3, e4, Nat.mod_eq_of_lt hk]
theorem putRef_cases (s g : Int) : (putRefE s g = (0, 6)) ∨ ∃ a b : Nat, s = a ∧ g = b ∧ a ≤ 4096 ∧ b < 1099511627776 ∧ putRefE s g = (((a + 8192 * b : Nat) : Int), 0) ∧ fieldsF (a + 8192 * b) [13, 40, 11] = [(a : Int), b, 0] := by
  unfold putRefE
  split
  · exact Or.inl rfl
  · rename_i h
    obtain ⟨a, rfl⟩ := Int.eq_ofNat_of_zero_le (show 0 ≤ s by omega)
    obtain ⟨b, rfl⟩ := Int.eq_ofNat_of_zero_le (show 0 ≤ g by omega)
    refine Or.inr ⟨a, b, rfl, rfl, by omega, by omega, by congr 1; omega, ?_⟩
    exact fields3 a b 0 13 40 11 (show a < 8192 by omega) (show b < 1099511627776 by omega) (by decide)
theorem putRing_cases (n p : Int) : (putRingE n p = (0, 6)) ∨ ∃ a b : Nat, n + 1 = a ∧ p + 1 = b ∧ a ≤ 4097 ∧ b ≤ 4097 ∧ putRingE n p = (((a + 8192 * b : Nat) : Int), 0) ∧ fieldsF (a + 8192 * b) [13, 13, 38] = [(a : Int), b, 0] ∧ ringE (a + 8192 * b) = ((n, p), 0) := by
  unfold putRingE
  split
  · exact Or.inl rfl
  · rename_i h
    obtain ⟨a, ha⟩ := Int.eq_ofNat_of_zero_le (show 0 ≤ n + 1 by omega)
    obtain ⟨b, hb⟩ := Int.eq_ofNat_of_zero_le (show 0 ≤ p + 1 by omega)
    refine Or.inr ⟨a, b, ha, hb, by omega, by omega, by congr 1; omega, fields3 a b 0 13 13 38 (show a < 8192 by omega) (show b < 8192 by omega) (by decide), ?_⟩
    unfold ringE
    rw [if_neg (by omega), show (a + 8192 * b) % 8192 = a by omega, show (a + 8192 * b) / 8192 = b by omega]
    congr 2 <;> omega
theorem putEnt_cases (n l : Int) : (putEntE n l = (0, 6)) ∨ ∃ a b : Nat, n = a ∧ l = b ∧ a ≤ 4096 ∧ b ≤ 7 ∧ putEntE n l = (((a + 8192 * b : Nat) : Int), 0) ∧ fieldsF (a + 8192 * b) [13, 3, 48] = [(a : Int), b, 0] ∧ entE (a + 8192 * b) = ((n, l), 0) := by
  unfold putEntE
  split
  · exact Or.inl rfl
  · rename_i h
    obtain ⟨a, rfl⟩ := Int.eq_ofNat_of_zero_le (show 0 ≤ n by omega)
    obtain ⟨b, rfl⟩ := Int.eq_ofNat_of_zero_le (show 0 ≤ l by omega)
    refine Or.inr ⟨a, b, rfl, rfl, by omega, by omega, by congr 1; omega, fields3 a b 0 13 3 48 (show a < 8192 by omega) (show b < 8 by omega) (by decide), ?_⟩
    unfold entE
    rw [if_neg (by omega), show (a + 8192 * b) % 8192 = a by omega, show (a + 8192 * b) / 8192 = b by omega]
set_option maxRecDepth 100000 in
set_option maxHeartbeats 4000000 in
theorem topPlaces_walk (s g n p sl lv : Int) (hs : -9223372036854775808 ≤ s ∧ s ≤ 9223372036854775807) (hg : -9223372036854775808 ≤ g ∧ g ≤ 9223372036854775807)
    (hn : -9223372036854775808 ≤ n ∧ n ≤ 9223372036854775807) (hp : -9223372036854775808 ≤ p ∧ p ≤ 9223372036854775807) (w : World) :
    Calls Try.prog 4 #[.agg #[.int .i64 s, .int .i64 g], .int .i64 n, .int .i64 p, .int .i64 sl, .int .i64 lv] w fun e w' => e = .returned (.bool true) ∧ Below w.heap.size w w' := by
  have c1 := fun w => pack_putref s g hs hg w
  have c2 := fun w => pack_putring n p hn hp w
  have c3 := fun w => pack_putent sl lv w
  have h1 := Lib.hid (putRef_cases s g)
  have h2 := Lib.hid (putRing_cases n p)
  have h3 := Lib.hid (putEnt_cases sl lv)
  obtain ⟨e1, he1⟩ : ∃ e, putRefE s g = e := ⟨_, rfl⟩
  obtain ⟨e2, he2⟩ : ∃ e, putRingE n p = e := ⟨_, rfl⟩
  obtain ⟨e3, he3⟩ : ∃ e, putEntE sl lv = e := ⟨_, rfl⟩
  rw [he1] at c1 h1
  rw [he2] at c2 h2
  rw [he3] at c3 h3
  clear he1 he2 he3 hs hg hn hp
  obtain ⟨x1, y1⟩ := e1
  obtain ⟨x2, y2⟩ := e2
  obtain ⟨x3, y3⟩ := e3
  go_enter Try.func4, Try.ntmps4
  go_wp2_with fail
  have K0 := Blk.new w 35 #[.int .i64 s, .int .i64 g]
  have B0 : Below w.heap.size w (w.alloc (.cells #[.int .i64 s, .int .i64 g] 35)) := (Below.refl _ _).alloc (Nat.le_refl _) _
  obtain ⟨w0, hw0⟩ : ∃ w0, w.alloc (.cells #[.int .i64 s, .int .i64 g] 35) = w0 := ⟨_, rfl⟩
  rw [hw0] at K0 B0 ⊢
  refine (begins1_any _).mono ?_
  rintro e w1 ⟨rfl, hb1⟩
  have B1 := B0.trans (hb1.mono B0.size)
  have H1 := Lib.hid (K0.below hb1 K0.lt)
  have q0 := H1.out.cell 0
  have q1 := H1.out.cell 1
  clear hw0 K0 B0 hb1
  go_wp2_with fail
  refine (c1 _).mono ?_
  rintro e w2 ⟨rfl, hb2⟩
  have B2 := B1.trans (hb2.mono B1.size)
  have H2 := Lib.hid (H1.out.below hb2 H1.out.lt)
  clear B1 H1 hb2 q0 q1
  go_upto_if 37 with fail
  go_cut [] (fun wx => Below w.heap.size w wx)
  case first =>
    rcases h1.out with h | ⟨a, b, rfl, rfl, ha, hb, he, hf⟩
    · obtain ⟨rfl, rfl⟩ := Prod.mk.inj h
      clear h
      go_wp2_with fail
      go_meet
      case rel => exact B2
    · obtain ⟨rfl, rfl⟩ := Prod.mk.inj he
      have HF := Lib.hid hf
      clear he hf
      go_wp2_with fail
      refine (pack_fields (a + 8192 * b) (by omega) _ 3 3 [13, 40, 11] _ (rd_lits w2 3 .i64 [13, 40, 11] 3 rfl) (by decide)).mono ?_
      intro e w3 hret
      rw [HF.out] at hret
      obtain ⟨⟨A1, c1', rfl, hl⟩, hb3⟩ := hret.ok_ (n := 3) (by decide) rfl
      have B3 : Below w.heap.size w w3 := B2.trans ((((Below.refl _ _).alloc (Nat.le_refl _) _).trans (hb3.mono (by simp))).mono B2.size)
      have H3 := Lib.hid (H2.out.below (((Below.refl _ _).alloc (Nat.le_refl _) _).trans (hb3.mono (by simp))) H2.out.lt)
      obtain ⟨b1, o1, rfl, _, l0⟩ := hl.atI (k := 0) (by decide)
      obtain ⟨b2, o2, hA, _, l1⟩ := hl.atI (k := 1) (by decide)
      obtain ⟨b3, o3, hA', _, l2⟩ := hl.atI (k := 2) (by decide)
      injection hA with hA; injection hA with ea eb; subst ea; subst eb
      injection hA' with hA; injection hA with ea eb; subst ea; subst eb
      rw [show ig [(a : Int), b, 0] 0 = a from rfl, Nat.add_zero] at l0
      rw [show ig [(a : Int), b, 0] 1 = b from rfl] at l1
      rw [show ig [(a : Int), b, 0] 2 = 0 from rfl] at l2
      have k0 := H3.out.cell 0
      have k1 := H3.out.cell 1
      have wa : IntKind.u64.wrap (a : Int) = a := wrap_word (word_of_nat (by omega))
      have wb : IntKind.u64.wrap (b : Int) = b := wrap_word (word_of_nat (by omega))
      clear hret hb3 hl H2 B2
      go_upto_region 6 with fail
      go_quiet (fail)
      go_wp2_with fail
      go_meet
      case rel => exact below_drewN B3 _
  case rest =>
    have B3 := hcut
    clear B2 H2
    go_wp2_with fail
    refine (c2 _).mono ?_
    rintro e w' ⟨rfl, rfl⟩
    go_upto_if 82 with fail
    go_cut [] (fun wx => Below w.heap.size w wx)
    case first =>
      rcases h2.out with h | ⟨a, b, ha', hb', ha, hb, he, hf, hrg⟩
      · obtain ⟨rfl, rfl⟩ := Prod.mk.inj h
        clear h
        go_wp2_with fail
        go_meet
        case rel => exact B3
      · obtain ⟨rfl, rfl⟩ := Prod.mk.inj he
        have HF := Lib.hid hf
        have hr := fun w => pack_ring (a + 8192 * b) (by omega) w
        rw [hrg] at hr
        have HR := Lib.hid hr
        clear he hf hrg hr
        go_wp2_with fail
        refine (pack_fields (a + 8192 * b) (by omega) _ 3 3 [13, 13, 38] _ (rd_lits wc 3 .i64 [13, 13, 38] 3 rfl) (by decide)).mono ?_
        intro e w3 hret
        rw [HF.out] at hret
        obtain ⟨⟨A1, c1', rfl, hl⟩, hb3⟩ := hret.ok_ (n := 3) (by decide) rfl
        have B4 : Below w.heap.size w w3 := B3.trans ((((Below.refl _ _).alloc (Nat.le_refl _) _).trans (hb3.mono (by simp))).mono B3.size)
        obtain ⟨b1, o1, rfl, _, l0⟩ := hl.atI (k := 0) (by decide)
        obtain ⟨b2, o2, hA, _, l1⟩ := hl.atI (k := 1) (by decide)
        obtain ⟨b3, o3, hA', _, l2⟩ := hl.atI (k := 2) (by decide)
        injection hA with hA; injection hA with ea eb; subst ea; subst eb
        injection hA' with hA; injection hA with ea eb; subst ea; subst eb
        rw [show ig [(a : Int), b, 0] 0 = a from rfl, Nat.add_zero] at l0
        rw [show ig [(a : Int), b, 0] 1 = b from rfl] at l1
        rw [show ig [(a : Int), b, 0] 2 = 0 from rfl] at l2
        clear hret hb3 hl B3
        have z1 : n + 1 = (a : Int) := ha'
        have z2 : p + 1 = (b : Int) := hb'
        clear ha' hb'
        go_wp2_with fail
        refine (HR.out _).mono ?_
        rintro e w' ⟨rfl, rfl⟩
        go_wp2_with fail
        go_meet
        case rel => exact B4
    case rest =>
      have B4 := hcut
      clear B3
      go_wp2_with fail
      refine (c3 _).mono ?_
      rintro e w' ⟨rfl, rfl⟩
      rcases h3.out with h | ⟨a, b, rfl, rfl, ha, hb, he, hf, hrg⟩
      · obtain ⟨rfl, rfl⟩ := Prod.mk.inj h
        clear h
        go_wp2_with fail
        go_ret
        exact ⟨rfl, B4⟩
      · obtain ⟨rfl, rfl⟩ := Prod.mk.inj he
        have HF := Lib.hid hf
        have hr := fun w => pack_entry (a + 8192 * b) (by omega) w
        rw [hrg] at hr
        have HR := Lib.hid hr
        clear he hf hrg hr
        go_wp2_with fail
        refine (pack_fields (a + 8192 * b) (by omega) _ 3 3 [13, 3, 48] _ (rd_lits wc 3 .i64 [13, 3, 48] 3 rfl) (by decide)).mono ?_
        intro e w3 hret
        rw [HF.out] at hret
        obtain ⟨⟨A1, c1', rfl, hl⟩, hb3⟩ := hret.ok_ (n := 3) (by decide) rfl
        have B5 : Below w.heap.size w w3 := B4.trans ((((Below.refl _ _).alloc (Nat.le_refl _) _).trans (hb3.mono (by simp))).mono B4.size)
        obtain ⟨b1, o1, rfl, _, l0⟩ := hl.atI (k := 0) (by decide)
        obtain ⟨b2, o2, hA, _, l1⟩ := hl.atI (k := 1) (by decide)
        obtain ⟨b3, o3, hA', _, l2⟩ := hl.atI (k := 2) (by decide)
        injection hA with hA; injection hA with ea eb; subst ea; subst eb
        injection hA' with hA; injection hA with ea eb; subst ea; subst eb
        rw [show ig [(a : Int), b, 0] 0 = a from rfl, Nat.add_zero] at l0
        rw [show ig [(a : Int), b, 0] 1 = b from rfl] at l1
        rw [show ig [(a : Int), b, 0] 2 = 0 from rfl] at l2
        clear hret hb3 hl B4
        go_wp2_with fail
        refine (HR.out _).mono ?_
        rintro e w' ⟨rfl, rfl⟩
        go_wp2_with fail
        go_ret
        exact ⟨rfl, B5⟩
end Go.Proofs.Ytlfblckniikdiaa
