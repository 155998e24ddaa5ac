/- Walk of the law PackBack. -/
import Derived.Test.YtknnalaemndnaaaLaw02c
import Derived.Test.YtknnalaemndnaaaPackB
import Derived.Deep.DeepCutAuto
namespace Go.Proofs.Ytknnalaemndnaaa
open Go.RowKit
theorem RetF.bad_ {zs vs : List Int} {w w' : World} {e : Ending} (h : RetF zs vs w e w') (h1 : wideF zs 64 = false) :
    (∃ A c, e = .returned (.tuple #[.slice A 0 c, .int .i64 6])) ∧ Below w.heap.size w w' := by
  unfold RetF at h
  rw [h1] at h
  obtain ⟨⟨A, c, h1, _⟩, h2⟩ := h
  exact ⟨⟨A, c, h1⟩, h2⟩
theorem RetF.good_ {zs vs : List Int} {w w' : World} {e : Ending} {n : Nat} (h : RetF zs vs w e w') (h1 : wideF zs 64 = true) (hn : vs.length = n) :
    (∃ A c, e = .returned (.tuple #[.slice A n c, .int .i64 0]) ∧ Rd w' w'.heap.size A n (vs.map (.int .u64))) ∧ Below w.heap.size w w' := by
  unfold RetF at h
  rw [h1] at h
  subst hn
  exact h
/-- What a ref's word and the word of another one say. -/
theorem ref_back {s g : Int} (h : (putRefE s g).2 = 0) : refE (putRefE s g).1.toNat = ((s, g), 0) ∧ 0 ≤ (putRefE s g).1 ∧ (putRefE s g).1 < 18446744073709551616 := by
  unfold putRefE at h ⊢
  split at h
  · cases h
  · rename_i hn
    rw [if_neg hn]
    unfold refE
    simp only
    refine ⟨?_, by omega, by omega⟩
    rw [if_neg (by omega)]
    congr 2 <;> omega
theorem ref_inj {s g s' g' : Int} (h : (putRefE s g).2 = 0) (h' : (putRefE s' g').2 = 0) : (putRefE s g).1 = (putRefE s' g').1 ↔ s = s' ∧ g = g' := by
  unfold putRefE at h h' ⊢
  split at h
  · cases h
  · split at h'
    · cases h'
    · rename_i h1 h2
      rw [if_neg h1, if_neg h2]
      simp only
      omega
theorem ref_why (s g : Int) : (putRefE s g).2 = 0 ∨ (putRefE s g).2 = 6 := by unfold putRefE; split <;> simp
set_option maxRecDepth 100000 in
set_option maxHeartbeats 2000000 in
theorem packBack_walk (v : Nat) (hv : v < 18446744073709551616) (A : Option Addr) (m c : Nat) (zs : List Int) (s g s' g' n : Int) (hs : -9223372036854775808 ≤ s ∧ s ≤ 9223372036854775807) (hg : -9223372036854775808 ≤ g ∧ g ≤ 9223372036854775807)
    (hs' : -9223372036854775808 ≤ s' ∧ s' ≤ 9223372036854775807) (hg' : -9223372036854775808 ≤ g' ∧ g' ≤ 9223372036854775807) (hn : -9223372036854775808 ≤ n ∧ n ≤ 9223372036854775807) (w : World)
    (hr : Rd w w.heap.size A m (zs.map (.int .i64))) (hm : m ≤ 100) :
    Calls Try.prog 10 #[.int .u64 v, .slice A m c, .agg #[.int .i64 s, .int .i64 g], .agg #[.int .i64 s', .int .i64 g'], .int .i64 n] w fun e w' => e = .returned (.bool true) ∧ Below w.heap.size w w' := by
  have t1 : decide (100 < (m : Int)) = false := by simp; omega
  have HR := Lib.hid hr
  have c1 := fun w => pack_putref s g hs hg w
  have c2 := fun w => pack_putref s' g' hs' hg' w
  have z1 := fun w => pack_zig n hn.1 hn.2 w
  obtain ⟨j1, j2, j3⟩ := zagzig n hn.1 hn.2
  have z2 := fun w => pack_zag (zigF n).toNat (by omega) w
  obtain ⟨k1, k2, k3⟩ := zigzag v hv
  have z3 := fun w => pack_zag v hv w
  have z4 := fun w => pack_zig (zagF v) k2 k3 w
  rw [j1] at z2
  rw [k1] at z4
  obtain ⟨x, hx⟩ : ∃ x : Nat, zigF n = x := ⟨_, (Int.toNat_of_nonneg j2).symm⟩
  obtain ⟨y, hy⟩ : ∃ y, zagF v = y := ⟨_, rfl⟩
  rw [hx] at z1 z2
  rw [Int.toNat_natCast] at z2
  rw [hy] at z3 z4
  have RW := ref_why s g
  have RW' := ref_why s' g'
  have RB := ref_back (s := s) (g := g)
  have RI := ref_inj (s := s) (g := g) (s' := s') (g' := g')
  obtain ⟨p1, q1⟩ : ∃ x, (putRefE s g).1 = x := ⟨_, rfl⟩
  obtain ⟨p2, q2⟩ : ∃ x, (putRefE s g).2 = x := ⟨_, rfl⟩
  obtain ⟨p3, q3⟩ : ∃ x, (putRefE s' g').1 = x := ⟨_, rfl⟩
  obtain ⟨p4, q4⟩ : ∃ x, (putRefE s' g').2 = x := ⟨_, rfl⟩
  rw [q1, q2] at c1 RB
  rw [q3, q4] at c2
  rw [q1, q2, q3, q4] at RI
  rw [q2] at RW
  rw [q4] at RW'
  have HRW := Lib.hid RW
  have HRW' := Lib.hid RW'
  have HRB := Lib.hid RB
  have HRI := Lib.hid RI
  clear hr hx hy j1 j2 j3 k1 k2 k3 hs hg hs' hg' hn q1 q2 q3 q4 RW RW' RB RI
  go_enter Try.func10, Try.ntmps10
  go_wp2_with fail
  have K0 := Blk.new w 67 #[.int .i64 s, .int .i64 g]
  have B0 : Below w.heap.size w (w.alloc (.cells #[.int .i64 s, .int .i64 g] 67)) := (Below.refl _ _).alloc (Nat.le_refl _) _
  have S0 : (w.alloc (.cells #[.int .i64 s, .int .i64 g] 67)).heap.size = w.heap.size + 1 := by simp
  obtain ⟨w0, hw0⟩ : ∃ w0, w.alloc (.cells #[.int .i64 s, .int .i64 g] 67) = w0 := ⟨_, rfl⟩
  rw [hw0] at K0 B0 S0 ⊢
  have K1 := Blk.new w0 67 #[.int .i64 s', .int .i64 g']
  have L1 := K0.alloc (.cells #[.int .i64 s', .int .i64 g'] 67)
  have B1 := B0.alloc B0.size (.cells #[.int .i64 s', .int .i64 g'] 67)
  obtain ⟨w1, hw1⟩ : ∃ w1, w0.alloc (.cells #[.int .i64 s', .int .i64 g'] 67) = w1 := ⟨_, rfl⟩
  rw [hw1] at K1 L1 B1 ⊢
  rw [S0] at K1
  have H0 := Lib.hid L1
  have H1 := Lib.hid K1
  clear hw0 hw1 K0 B0 S0 K1 L1
  refine (lives02 _).mono ?_
  rintro e w2 ⟨rfl, hb⟩
  have B2 := B1.trans (hb.mono B1.size)
  have G0 := Lib.hid (H0.out.below hb H0.out.lt)
  have G1 := Lib.hid (H1.out.below hb H1.out.lt)
  clear hb B1 H0 H1
  obtain ⟨bw, hbw⟩ : ∃ bw, wideF zs 64 = bw := ⟨_, rfl⟩
  obtain ⟨us, hus⟩ : ∃ us, (if wideF zs 64 then fieldsF v zs else []) = us := ⟨_, rfl⟩
  obtain ⟨wy, hwy⟩ : ∃ wy, (if wideF zs 64 then (0 : Int) else 6) = wy := ⟨_, rfl⟩
  have tw : (wy == 0) = bw := by rw [← hwy, ← hbw]; cases wideF zs 64 <;> rfl
  have HU := Lib.hid hus
  have HW := Lib.hid hwy
  have HB := Lib.hid hbw
  clear hus hwy hbw
  go_upto_if 35 with fail
  refine (pack_fields v hv A m c zs _ ((HR.out.below B2).more B2.size) hm).mono ?_
  intro e w3 hret
  obtain ⟨⟨A1, c1', rfl, hd1⟩, hb1⟩ := hret.open_ HU.out HW.out
  have B3 := B2.trans (hb1.mono B2.size)
  have G2 := Lib.hid (G0.out.below hb1 G0.out.lt)
  have G3 := Lib.hid (G1.out.below hb1 G1.out.lt)
  clear hret hb1 G0 G1 B2
  go_upto_if 35 with fail
  go_cut [] (fun wx => Below w.heap.size w wx ∧ Blk wx w.heap.size 67 #[.int .i64 s, .int .i64 g] ∧ Blk wx (w.heap.size + 1) 67 #[.int .i64 s', .int .i64 g'])
  case first =>
    cases bw with
    | false =>
      go_wp2_with fail
      go_meet
      case rel => exact ⟨B3, G2.out, G3.out⟩
    | true =>
      have hus : fieldsF v zs = us := by have := HU.out; rw [HB.out] at this; exact this
      have hlen : us.length = m := by rw [← hus, fields_len]; exact HR.out.lenI
      have hwu : ∀ z ∈ us, Word z := by rw [← hus]; exact word_fields zs v hv
      have hl1 : us.length ≤ 100 := by rw [hlen]; exact hm
      obtain ⟨u, hu⟩ : ∃ u : Nat, v % 2 ^ totF zs = u := ⟨_, rfl⟩
      have hje : joinE us zs = ((u : Int), 0) := by rw [← hus, joinE_fields HB.out, hu]
      have hu64 : u < 18446744073709551616 := by rw [← hu]; exact Nat.lt_of_le_of_lt (Nat.mod_le _ _) hv
      have hff : fieldsF u zs = us := by rw [← hu, fields_mod, hus]
      have han : bits .andNot .u64 (u : Int) (v : Int) = 0 := by rw [← hu]; exact low_andnot v _ hv
      have hjn := fun w hr hr' => pack_join A1 us.length c1' us hwu A m c zs w hr hr' hl1 hm
      rw [hje] at hjn
      have HJ := Lib.hid hjn
      have HF := Lib.hid hff
      have HUS := Lib.hid hus
      have HL := Lib.hid hlen
      have ha0 : (bits .andNot .u64 (u : Int) (v : Int) != 0) = false := by rw [han]; rfl
      have HA := Lib.hid ha0
      have hlm : ((us.length : Int) != (m : Int)) = false := by simp; omega
      clear hus hlen hje hff han hjn hu ha0
      go_wp2_with fail
      refine (HJ.out _ (hd1.more (Nat.le_refl _)) ((HR.out.below B3).more B3.size)).mono ?_
      rintro e w4 ⟨rfl, q, rfl⟩
      have B4 := below_drewN B3 q
      have D4 := hd1.drewN q
      have hp4 := pack_fields u hu64 A m c zs _ ((HR.out.below B4).more B4.size) hm
      go_wp2_with fail
      refine hp4.mono ?_
      intro e w5 hret
      obtain ⟨⟨A2, c2', rfl, hd2⟩, hb2⟩ := hret.open_ (us := us) (wy := 0) (by rw [HB.out, HF.out]; rfl) (by rw [HB.out]; rfl)
      have B5 := B4.trans (hb2.mono B4.size)
      have G4 := Lib.hid ((G2.out.drewN q).below hb2 G2.out.lt)
      have G5 := Lib.hid ((G3.out.drewN q).below hb2 G3.out.lt)
      have D5 := (D4.below hb2).more hb2.size
      have hsame := same_words A1 A2 us.length us.length c1' c2' _ us us _ D5 hd2 (by omega) (by omega)
      rw [same_refl] at hsame
      have HS := Lib.hid hsame
      have hA := HA.out
      clear hret hb2 hsame D4 D5 hd2 hp4 B4
      go_wp2_with fail
      refine HS.out.mono ?_
      rintro e w6 ⟨rfl, q', rfl⟩
      go_wp2_with fail
      go_meet
      case rel => exact ⟨below_drewN B5 q', G4.out.drewN q', G5.out.drewN q'⟩
  case rest =>
    obtain ⟨B6, g6, g7⟩ := hcut
    have G6 := Lib.hid g6
    have G7 := Lib.hid g7
    clear B3 G2 G3 g6 g7 hd1 HU HW HB tw
    have x0 := G6.out.cell 0
    have x1 := G6.out.cell 1
    go_wp2_with fail
    refine (c1 _).mono ?_
    rintro e w7 ⟨rfl, hb7⟩
    have B7 := B6.trans (hb7.mono B6.size)
    have G8 := Lib.hid (G6.out.below hb7 G6.out.lt)
    have G9 := Lib.hid (G7.out.below hb7 G7.out.lt)
    have y0 := G9.out.cell 0
    have y1 := G9.out.cell 1
    clear hb7 B6 G6 G7 x0 x1
    go_wp2_with fail
    refine (c2 _).mono ?_
    rintro e w8 ⟨rfl, hb8⟩
    have B8 := B7.trans (hb8.mono B7.size)
    have G10 := Lib.hid (G8.out.below hb8 G8.out.lt)
    have G11 := Lib.hid (G9.out.below hb8 G9.out.lt)
    clear hb8 B7 G8 G9 y0 y1
    go_upto_if 84 with fail
    go_cut [] (fun wx => Below w.heap.size w wx)
    case first =>
      rcases HRW.out with rfl | rfl
      · obtain ⟨rb1, rb2, rb3⟩ := HRB.out rfl
        obtain ⟨k1, rfl⟩ := Int.eq_ofNat_of_zero_le rb2
        rw [Int.toNat_natCast] at rb1
        have hpr := fun w => pack_ref k1 (by omega) w
        rw [rb1] at hpr
        clear rb1 rb2 rb3
        go_wp2_with fail
        refine (hpr _).mono ?_
        rintro e w9 ⟨rfl, hb9⟩
        go_upto_region 15 with fail
        have B9 := B8.trans (hb9.mono B8.size)
        have B10 := B9.alloc B9.size (.cells #[.int .i64 s, .int .i64 g] 67)
        have K10 := Blk.new w9 67 #[.int .i64 s, .int .i64 g]
        have G12 := Lib.hid ((G10.out.below hb9 G10.out.lt).alloc (.cells #[.int .i64 s, .int .i64 g] 67))
        have G13 := Lib.hid ((G11.out.below hb9 G11.out.lt).alloc (.cells #[.int .i64 s, .int .i64 g] 67))
        obtain ⟨w10, hw10⟩ : ∃ w10, w9.alloc (.cells #[.int .i64 s, .int .i64 g] 67) = w10 := ⟨_, rfl⟩
        rw [hw10] at B10 K10 G12 G13 ⊢
        have G14 := Lib.hid K10
        have x0 := G12.out.cell 0
        have x1 := G12.out.cell 1
        have y0 := G13.out.cell 0
        have y1 := G13.out.cell 1
        have z0 := G14.out.cell 0
        have z1 := G14.out.cell 1
        clear hw10 B9 B8 hb9 K10 G10 G11 hpr
        rcases HRW'.out with rfl | rfl
        · by_cases he : s = s' ∧ g = g'
          · have hpp : ((k1 : Int) == p3) = true := by simpa using ((HRI.out (by simp) (by simp)).2 he)
            have e1 : (s == s') = true := by simpa using he.1
            have e2 : (g == g') = true := by simpa using he.2
            clear he
            go_wp2_with fail
            go_meet
            case rel => exact B10
          · have hpp : ((k1 : Int) == p3) = false := by simpa using (fun e => he ((HRI.out (by simp) (by simp)).1 e))
            by_cases hss : s = s'
            · have e1 : (s == s') = true := by simpa using hss
              have e2 : (g == g') = false := by simpa using (fun e => he ⟨hss, e⟩)
              clear he hss
              go_wp2_with fail
              go_meet
              case rel => exact B10
            · have e1 : (s == s') = false := by simpa using hss
              clear he hss
              go_wp2_with fail
              go_meet
              case rel => exact B10
        · go_wp2_with fail
          go_meet
          case rel => exact B10
      · go_wp2_with fail
        go_meet
        case rel => exact B8
    case rest =>
      have B11 := hcut
      clear B8 G10 G11
      go_wp2_with (first
        | (go_at_call 46; (with_reducible refine (z1 _).mono ?_); rintro e w' ⟨rfl, rfl⟩)
        | (go_at_call 48; (with_reducible refine (z2 _).mono ?_); rintro e w' ⟨rfl, rfl⟩)
        | (go_at_call 48; (with_reducible refine (z3 _).mono ?_); rintro e w' ⟨rfl, rfl⟩)
        | (go_at_call 46; (with_reducible refine (z4 _).mono ?_); rintro e w' ⟨rfl, rfl⟩))
      go_ret
      exact ⟨rfl, B11⟩
set_option maxRecDepth 100000 in
set_option maxHeartbeats 1000000 in
theorem packBack_out (v n s g s' g' : Int) (A : Option Addr) (m c : Nat) (w : World) (h : 100 < m) :
    Calls Try.prog 10 #[.int .u64 v, .slice A m c, .agg #[.int .i64 s, .int .i64 g], .agg #[.int .i64 s', .int .i64 g'], .int .i64 n] w fun e w' => e = .returned (.bool true) ∧ Below w.heap.size w w' := by
  have t1 : decide (100 < (m : Int)) = true := by simp; omega
  clear h
  go_enter Try.func10, Try.ntmps10
  go_wp2_with fail
  refine (lives02 _).mono ?_
  rintro e w1 ⟨rfl, hb1⟩
  have B1 : Below w.heap.size w w1 := (((Below.refl _ _).alloc (Nat.le_refl _) _).alloc (by simp) _).trans (hb1.mono (by simp; omega))
  clear hb1
  go_wp2_with fail
  go_ret
  exact ⟨rfl, B1⟩
theorem packBack_any (v : Int) (hv : Word v) (A : Option Addr) (m c : Nat) (zs : List Int) (s g s' g' n : Int) (hs : -9223372036854775808 ≤ s ∧ s ≤ 9223372036854775807) (hg : -9223372036854775808 ≤ g ∧ g ≤ 9223372036854775807)
    (hs' : -9223372036854775808 ≤ s' ∧ s' ≤ 9223372036854775807) (hg' : -9223372036854775808 ≤ g' ∧ g' ≤ 9223372036854775807) (hn : -9223372036854775808 ≤ n ∧ n ≤ 9223372036854775807) (w : World)
    (hr : Rd w w.heap.size A m (zs.map (.int .i64))) :
    Calls Try.prog 10 #[.int .u64 v, .slice A m c, .agg #[.int .i64 s, .int .i64 g], .agg #[.int .i64 s', .int .i64 g'], .int .i64 n] w fun e w' => e = .returned (.bool true) ∧ Below w.heap.size w w' := by
  obtain ⟨k, rfl, hk⟩ := word_nat hv
  by_cases h : 100 < m
  · exact packBack_out k n s g s' g' A m c w h
  · exact packBack_walk k hk A m c zs s g s' g' n hs hg hs' hg' hn w hr (by omega)
end Go.Proofs.Ytknnalaemndnaaa
