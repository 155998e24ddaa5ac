/- Walk of the law EpochSafe. -/
import Derived.Test.YtgcoecibhonfnaaSafM
import Derived.Test.YtgcoecibhonfnaaLaw20
import Derived.Deep.Cut
import Derived.Deep.CutRange
import Derived.Deep.CutBlock
namespace Go.Proofs.Ytgcoecibhonfnaa
open Go.RowKit
/-- The outer loop's relation, one name. -/
def SafR (w wx : World) (g gw gp k j : Nat) (SA : Option Addr) (sc : Nat) (TA : Option Addr) (tc : Nat) (p : EpP) (s : EpS) (pin sl tm : List Int) : Prop :=
  MemO w wx g gw gp p s pin sl tm SA s.k sc TA s.k tc ∧ Inv2 s j pin sl tm ∧ s.n = k
set_option maxRecDepth 100000 in
set_option maxHeartbeats 16000000 in
theorem epochSafe_walk (n : Int) (A : Option Addr) (m c : Nat) (dl : List Int) (w : World) (hd : Rd2 w w.heap.size A m dl) :
    Calls Try.prog 3 #[.int .i64 n, .slice A m c] w fun e w' => e = .returned (.bool true) ∧ Below w.heap.size w w' := by
  have hl := lives20 w
  by_cases h200 : 200 < m
  · have t1 : decide ((m : Int) > 200) = true := by simp; omega
    clear hd h200
    go_enter Try.func3, Try.ntmps3
    go_wp2_with fail
    refine hl.mono ?_
    rintro e w' ⟨rfl, hb⟩
    go_wp2_with fail
    go_ret
    exact ⟨rfl, hb⟩
  · have t1 : decide ((m : Int) > 200) = false := by simp; omega
    by_cases hn : n < 1 ∨ 64 < n
    · by_cases h1 : n < 1
      · have t2 : decide (n < 1) = true := by simpa using h1
        clear hd h200 h1
        go_enter Try.func3, Try.ntmps3
        go_wp2_with fail
        refine hl.mono ?_
        rintro e w1 ⟨rfl, hb⟩
        go_wp2_with fail
        refine (ep_new_not n hn w1).mono ?_
        rintro e w' ⟨rfl, rfl⟩
        go_wp2_with fail
        go_ret
        exact ⟨rfl, hb⟩
      · have t2 : decide (n < 1) = false := by simpa using h1
        have t3 : decide (n > 64) = true := by simp; omega
        clear hd h200 h1
        go_enter Try.func3, Try.ntmps3
        go_wp2_with fail
        refine hl.mono ?_
        rintro e w1 ⟨rfl, hb⟩
        go_wp2_with fail
        refine (ep_new_not n hn w1).mono ?_
        rintro e w' ⟨rfl, rfl⟩
        go_wp2_with fail
        go_ret
        exact ⟨rfl, hb⟩
    · obtain ⟨k, rfl⟩ : ∃ k : Nat, n = k := ⟨n.toNat, by omega⟩
      have hk1 : 1 ≤ k := by omega
      have hk2 : k ≤ 64 := by omega
      have hm2 : m ≤ 200 := by omega
      have HD := Lib.hid hd
      have hmk := fun (kl kc : IntKind) w => make_intsS kl kc k hk2 w
      clear hd hn h200
      go_enter Try.func3, Try.ntmps3
      go_wp2_with fail
      refine hl.mono ?_
      rintro e w1 ⟨rfl, hb1⟩
      have HB1 := Lib.hid hb1
      clear hb1 hl
      go_wp2_with fail
      refine (ep_new k hk1 hk2 w1).mono ?_
      rintro e w2 ⟨g, gw, rfl, hE2, hb2⟩
      have HP : Hid (SafR w (w2.alloc (.cells (madeCells #[.int .i64 0] k) 3)) g gw w2.heap.size k 0 none 0 none 0 ⟨g, gw, none, 0⟩ ⟨0, 0, List.replicate (k * 2) 0, []⟩ (List.replicate k 0) [] []) := by
        have hb3 : Below w2.heap.size w2 (w2.alloc (.cells (madeCells #[.int .i64 0] k) 3)) := (Below.refl _ _).alloc (Nat.le_refl _) _
        have hk0 : (⟨0, 0, List.replicate (k * 2) 0, []⟩ : EpS).k = 0 := by simp [EpS.k]
        have hsz := HB1.out.size
        have hE3 := hE2.below hb3
        have hB2 := HB1.out.trans (hb2.mono hsz)
        refine ⟨⟨?_, IB.made w2 3 k .i64, by rw [hk0]; exact OwnO.nil _ _, by rw [hk0]; exact OwnO.nil _ _, fun e => ?_, hB2.size, (fun a h => by cases h), (fun a h => by cases h), (fun a b h => by cases h), rfl, rfl, hB2.trans (hb3.mono hB2.size)⟩, Inv2.new k hk1 hk2, by simp [EpS.n]⟩
        · refine ⟨hE3.clk, hE3.wrk, own_le hE3.lim hsz, Nat.le_trans hsz hE3.gb, Nat.le_trans hsz hE3.gwb, hE3.ne⟩
        · have := hE2.lt _ e; omega
      clear HB1 hE2 hb2
      go_wp2_with fail
      clear hmk
      obtain ⟨w3, hw3⟩ : ∃ x, w2.alloc (.cells (madeCells #[.int .i64 0] k) 3) = x := ⟨_, rfl⟩
      obtain ⟨gp, hgp⟩ : ∃ x, w2.heap.size = x := ⟨_, rfl⟩
      rw [hw3, hgp] at HP
      rw [hw3, hgp]
      clear hw3 hgp
      have hk0 : (⟨0, 0, List.replicate (k * 2) 0, []⟩ : EpS).k = 0 := by simp [EpS.k]
      go_loopw [8, 9, 51] (fun u v i wx => ∃ (j : Nat) (SA : Option Addr) (sc : Nat) (TA : Option Addr) (tc : Nat) (p : EpP) (s : EpS) (pin sl tm : List Int), j ≤ m ∧ i = .int .i64 j ∧ u = .slice SA s.k sc ∧ v = .slice TA s.k tc ∧ Hid (SafR w wx g gw gp k j SA sc TA tc p s pin sl tm)) (fun _ _ i _ => m - (intOf i).toNat)
      case atStart => exact ⟨0, none, 0, none, 0, _, _, _, _, _, Nat.zero_le _, rfl, by rw [hk0], by rw [hk0], HP⟩
      case round =>
        clear HP hk0
        obtain ⟨j, SA, sc, TA, tc, p, s, pin, sl, tm, hj, rfl, rfl, rfl, H⟩ := hrel
        by_cases hlt : j < m
        · obtain ⟨b', o, rfl, hbl, hc1, hc2⟩ := HD.out.at_ hlt
          obtain ⟨kd, hkd⟩ : ∃ y, ig dl (j * 2) = y := ⟨_, rfl⟩
          obtain ⟨nn, hnn⟩ : ∃ z, ig dl (j * 2 + 1) = z := ⟨_, rfl⟩
          rw [hkd] at hc1
          rw [hnn] at hc2
          have hd1 := (H.out.1.b.cell (p := ⟨b', o + j * 2, none⟩) hbl).trans hc1
          have hd2 := (H.out.1.b.cell (p := ⟨b', o + j * 2 + 1, none⟩) hbl).trans hc2
          clear hkd hnn hc1 hc2 hbl
          go_upto_region 13 with fail
          have HA := H.out.1.deed kd nn
          have HI := Lib.hid H.out.2.1
          have hsn := H.out.2.2
          obtain ⟨wA, hwA⟩ : ∃ x, wr.alloc (.cells #[.int .i64 kd, .int .i64 nn] 30) = x := ⟨_, rfl⟩
          obtain ⟨q, hq⟩ : ∃ x, wr.heap.size = x := ⟨_, rfl⟩
          rw [hwA, hq] at HA
          rw [hwA, hq]
          have d0 := HA.d.cell 0
          have d1 := HA.d.cell 1
          have hPG := HA.pg
          replace HA := Lib.hid HA
          clear hwA hq hd1 hd2 H HD
          have hit : Hid (s.n ≤ 64 ∧ s.ep ≤ 200 ∧ s.k ≤ 200) := ⟨HI.out.inv.n2, by have := HI.out.inv.ep; omega, by have := HI.out.inv.k; omega⟩
          by_cases k0 : kd = 0
          · have t0 : (kd == 0) = true := by simp [k0]
            clear k0
            go_wp2_with fail
            refine (hPG ▸ p_load HA.out.e nn).mono ?_
            rintro en wZ ⟨rfl, he, ht⟩
            have HM := Lib.hid ((HA.out.prog he rfl rfl (fun k hk => Or.inl hk) ht).o)
            have HI2 : Hid (Inv2 (s.loadS nn) (j + 1) pin sl tm ∧ (s.loadS nn).n = k ∧ (s.loadS nn).k = s.k) := ⟨(HI.out.load nn).step, by rw [← hsn]; unfold EpS.loadS; split; exact n_set _ _ _; rfl, by unfold EpS.loadS; split <;> rfl⟩
            clear he ht d0 d1 HA HI
            go_wp2_with fail
            go_roundw
            case rel => exact ⟨j + 1, SA, sc, TA, tc, p, s.loadS nn, pin, sl, tm, hlt, by go_num, by rw [HI2.out.2.2], by rw [HI2.out.2.2], by rw [HI2.out.2.2]; exact HM.out, HI2.out.1, HI2.out.2.1⟩
            case measure => simp [intOf]; omega
          have t0 : (kd == 0) = false := beq_false_of_ne k0
          clear k0
          by_cases k1 : kd = 1
          · have t1 : (kd == 1) = true := by simp [k1]
            clear k1
            have hld : ∀ i, i < s.n → 0 ≤ s.ld i ∧ s.ld i ≤ 4611686018427387904 := fun i hi => ⟨(HI.out.inv.ld i hi).1, by have := (HI.out.inv.ld i hi).2; omega⟩
            cases hpb : s.pinB nn with
            | false =>
              have e1 : s.pinS nn = s := by unfold EpS.pinS; rw [hpb]; rfl
              have hP := Lib.hid (hPG ▸ p_pin HA.out.e hld nn)
              rw [hpb, e1] at hP
              clear hpb e1 hld
              go_wp2_with fail
              refine hP.out.mono ?_
              rintro en wZ ⟨rfl, he, ht⟩
              have HM := Lib.hid ((HA.out.prog he rfl rfl (fun k hk => Or.inl hk) ht).o)
              clear he ht d0 d1 HA hP
              go_wp2_with fail
              go_roundw
              case rel => exact ⟨j + 1, SA, sc, TA, tc, _, s, pin, sl, tm, hlt, by go_num, rfl, rfl, HM.out, HI.out.step, hsn⟩
              case measure => simp [intOf]; omega
            | true =>
              obtain ⟨i, rfl, _⟩ := has_true (by unfold EpS.pinB at hpb; simp only [Bool.and_eq_true] at hpb; exact hpb.1)
              obtain ⟨hin, hp0, hI2⟩ := HI.out.pind hpb
              have hik : i < k := by omega
              have hil : i < pin.length := by rw [HI.out.pl]; exact hin
              have hn2 : (s.pinS i).n = k ∧ (s.pinS i).k = s.k := ⟨by rw [← hsn]; unfold EpS.pinS; split <;> first | exact n_set _ _ _ | rfl, by unfold EpS.pinS; split <;> rfl⟩
              have hP := Lib.hid (hPG ▸ p_pin HA.out.e hld i)
              rw [hpb] at hP
              have u1 : decide ((i : Int) < 0) = false := by simp
              have u2 : decide ((i : Int) ≥ (k : Int)) = false := by simp; omega
              clear hpb hld
              go_wp2_with fail
              refine hP.out.mono ?_
              rintro en wZ ⟨rfl, he, ht⟩
              have HM1 := HA.out.prog he rfl rfl (fun k hk => Or.inl hk) ht
              have HM := Lib.hid (HM1.pset hil ((j : Int) + 1)).o
              have e1 := HM1.d.cell 1
              have pc := HM1.pi.cell hil
              rw [hp0] at pc
              have pf := HM1.pi.frozen i
              have HI2 := Lib.hid hI2
              clear he ht d0 d1 HA HI HM1 hI2 hP hin hil
              go_wp2_with fail
              go_roundw
              case rel => exact ⟨j + 1, SA, sc, TA, tc, p, s.pinS i, _, sl, tm, hlt, by go_num, by rw [hn2.2], by rw [hn2.2], by rw [hn2.2]; exact HM.out, HI2.out, hn2.1⟩
              case measure => simp [intOf]; omega
          have t1 : (kd == 1) = false := beq_false_of_ne k1
          clear k1
          by_cases k2 : kd = 2
          · have t2 : (kd == 2) = true := by simp [k2]
            clear k2
            cases hpb : s.unpB nn with
            | false =>
              have e1 : s.unpS nn = s := by unfold EpS.unpS; rw [hpb]; rfl
              have hP := Lib.hid (hPG ▸ p_unp HA.out.e nn)
              rw [hpb, e1] at hP
              clear hpb e1
              go_wp2_with fail
              refine hP.out.mono ?_
              rintro en wZ ⟨rfl, he, ht⟩
              have HM := Lib.hid ((HA.out.prog he rfl rfl (fun k hk => Or.inl hk) ht).o)
              clear he ht d0 d1 HA hP
              go_wp2_with fail
              go_roundw
              case rel => exact ⟨j + 1, SA, sc, TA, tc, _, s, pin, sl, tm, hlt, by go_num, rfl, rfl, HM.out, HI.out.step, hsn⟩
              case measure => simp [intOf]; omega
            | true =>
              obtain ⟨i, rfl, _⟩ := has_true (by unfold EpS.unpB at hpb; simp only [Bool.and_eq_true] at hpb; exact hpb.1)
              obtain ⟨hin, hp0, hI2⟩ := HI.out.unp hpb
              have hik : i < k := by omega
              have hil : i < pin.length := by rw [HI.out.pl]; exact hin
              have hn2 : (s.unpS i).n = k ∧ (s.unpS i).k = s.k := ⟨by rw [← hsn]; unfold EpS.unpS; split <;> first | exact n_set _ _ _ | rfl, by unfold EpS.unpS; split <;> rfl⟩
              have hP := Lib.hid (hPG ▸ p_unp HA.out.e i)
              rw [hpb] at hP
              have u1 : decide ((i : Int) < 0) = false := by simp
              have u2 : decide ((i : Int) ≥ (k : Int)) = false := by simp; omega
              have u3 : (ig pin i == 0) = false := beq_false_of_ne hp0
              clear hpb hp0
              go_wp2_with fail
              refine hP.out.mono ?_
              rintro en wZ ⟨rfl, he, ht⟩
              have HM1 := HA.out.prog he rfl rfl (fun k hk => Or.inl hk) ht
              have HM := Lib.hid (HM1.pset hil 0).o
              have e1 := HM1.d.cell 1
              have pc := HM1.pi.cell hil
              have pf := HM1.pi.frozen i
              have HI2 := Lib.hid hI2.step
              clear he ht d0 d1 HA HI HM1 hI2 hP hin hil
              go_wp2_with fail
              go_roundw
              case rel => exact ⟨j + 1, SA, sc, TA, tc, p, s.unpS i, _, sl, tm, hlt, by go_num, by rw [hn2.2], by rw [hn2.2], by rw [hn2.2]; exact HM.out, HI2.out, hn2.1⟩
              case measure => simp [intOf]; omega
          have t2 : (kd == 2) = false := beq_false_of_ne k2
          clear k2
          by_cases k3 : kd = 3
          · have t3 : (kd == 3) = true := by simp [k3]
            clear k3
            have hP := Lib.hid (hPG ▸ p_ret HA.out.e HA.out.b.size (by have := hit.out; omega) nn)
            cases hpb : s.retB nn with
            | false =>
              have e1 : s.retS nn = s := by unfold EpS.retS; rw [hpb]; rfl
              rw [hpb, e1] at hP
              clear hpb e1
              go_wp2_with fail
              refine hP.out.mono ?_
              rintro en wZ ⟨rfl, B, d, he, hblk, ht⟩
              have HM := Lib.hid ((HA.out.prog he hPG.symm rfl hblk ht).o)
              clear he ht hblk d0 d1 HA hP
              go_wp2_with fail
              go_roundw
              case rel => exact ⟨j + 1, SA, sc, TA, tc, _, s, pin, sl, tm, hlt, by go_num, rfl, rfl, HM.out, HI.out.step, hsn⟩
              case measure => simp [intOf]; omega
            | true =>
              have hI2 := Lib.hid (HI.out.ret hpb)
              have hn2 : (s.retS nn).n = k ∧ (s.retS nn).k = s.k + 1 := ⟨by rw [← hsn]; unfold EpS.retS; split <;> rfl, by unfold EpS.retS; rw [hpb]; simp [EpS.k]⟩
              rw [hpb] at hP
              clear hpb
              go_wp2_with fail
              refine hP.out.mono ?_
              rintro en wZ ⟨rfl, B, d, he, hblk, ht⟩
              have HM1 := HA.out.prog he hPG.symm rfl hblk ht
              obtain ⟨p', hp'⟩ : ∃ x, ({ g := g, gw := p.gw, B := B, d := d } : EpP) = x := ⟨_, rfl⟩
              rw [hp'] at HM1
              have e1 := HM1.d.cell 1
              replace HM1 := Lib.hid HM1
              clear he ht hblk d0 d1 HA hP hp' HI
              go_wp2_with (first
                | (at_builtin; refine wpList_pushO rfl (.tmp 164) (.tmp 167) rfl wZ w.heap.size SA s.k sc sl nn rfl HM1.out.so rfl (by have := hit.out; omega) HM1.out.b.size ?_; intro A' c' wS ho hA hb hk; have HM2 := Lib.hid (HM1.out.pushS ho hA hb hk); clear ho hA hb hk)
                | (at_builtin; refine wpList_pushO rfl (.tmp 169) (.tmp 172) rfl wS w.heap.size TA s.k tc tm _ rfl HM2.out.to rfl (by have := hit.out; omega) HM2.out.b.size ?_; intro A2 c2 wT ho hA hb hk; have HM3 := Lib.hid (HM2.out.pushT ho hA hb hk).o; clear ho hA hb hk))
              go_roundw
              case rel => exact ⟨j + 1, A', c', A2, c2, _, s.retS nn, pin, _, _, hlt, by go_num, by rw [hn2.2], by rw [hn2.2], by rw [hn2.2]; exact HM3.out, hI2.out, hn2.1⟩
              case measure => simp [intOf]; omega
          have t3 : (kd == 3) = false := beq_false_of_ne k3
          clear k3
          by_cases k4 : kd = 4
          · have t4 : (kd == 4) = true := by simp [k4]
            clear k4
            have hP := Lib.hid (hPG ▸ ep_look p s w.heap.size wA HA.out.e HI.out.inv.at_ (by have := hit.out; omega) HI.out.inv.n2)
            go_wp2_with fail
            refine hP.out.mono ?_
            rintro en wZ ⟨rfl, he, ht⟩
            have HM := Lib.hid ((HA.out.prog he rfl rfl (fun k hk => Or.inl hk) ht).o)
            have hn2 : s.look.n = k ∧ s.look.k = s.k := ⟨by rw [← hsn]; unfold EpS.look; split; rfl; split <;> rfl, by unfold EpS.look; split; rfl; split <;> rfl⟩
            clear he ht d0 d1 HA hP
            go_wp2_with fail
            go_roundw
            case rel => exact ⟨j + 1, SA, sc, TA, tc, p, s.look, pin, sl, tm, hlt, by go_num, by rw [hn2.2], by rw [hn2.2], by rw [hn2.2]; exact HM.out, HI.out.look, hn2.1⟩
            case measure => simp [intOf]; omega
          have t4 : (kd == 4) = false := beq_false_of_ne k4
          clear k4
          obtain ⟨f, hfk, hfo, hI2, hsafe⟩ := HI.out.free
          have hP := Lib.hid (hPG ▸ ep_free p s w.heap.size wA HA.out.e (by have := hit.out; omega) (by have := hit.out; omega))
          rw [hfo] at hP
          have hpl := HI.out.pl
          have hsl := HI.out.sl_
          have htl := HI.out.tl
          go_wp2_with fail
          refine hP.out.mono ?_
          rintro en w5 ⟨⟨O, on, oc, rfl, ho⟩, he, ht⟩
          have hon := (own_rd ho).2
          have hon2 : on = f := by rw [hon]; simp; omega
          subst hon2
          have HO := Lib.hid (own_rd ho).1
          have HM := Lib.hid (HA.out.prog he rfl rfl (fun k hk => Or.inl hk) ht)
          replace hI2 := Lib.hid hI2
          have HS := Lib.hid hsafe
          have HL : Hid (pin.length = k ∧ sl.length = s.k ∧ tm.length = s.k ∧ on ≤ s.k ∧ s.k ≤ 200) := ⟨by omega, hsl, htl, hfk, hit.out.2.2⟩
          have hn2 : s.freeS.n = k ∧ s.freeS.k = s.k - on := ⟨hsn, by have := hI2.out.sl_; simp at this; omega⟩
          clear he ht d0 d1 HA hP hfo ho hon hsafe hpl hsl htl HI
          go_wp2_with fail
          go_loopw [8, 9, 61] (fun u v x wx => ∃ (i : Nat) (SA' : Option Addr) (sc' : Nat) (TA' : Option Addr) (tc' : Nat), i ≤ on ∧ x = .int .i64 i ∧ u = .slice SA' (s.k - i : Nat) sc' ∧ v = .slice TA' (s.k - i : Nat) tc' ∧ Hid (MemS w wx g gw gp q kd nn p s.freeS pin (sl.drop i) (tm.drop i) SA' (s.k - i) sc' TA' (s.k - i) tc') ∧ ∃ qq, wx = w5.drewN qq) (fun _ _ x _ => on - (intOf x).toNat)
          case atStart => exact ⟨0, SA, sc, TA, tc, Nat.zero_le _, rfl, rfl, rfl, HM, 0, rfl⟩
          case round =>
            clear HM
            obtain ⟨i, SA', sc', TA', tc', hi, rfl, rfl, rfl, HM, qq, rfl⟩ := hrel
            have hL := HL.out
            by_cases hif : i < on
            · obtain ⟨ob, oo, rfl, _, hoc⟩ := (HO.out.drewN qq).atI hif
              rw [ig_take1 hif] at hoc
              obtain ⟨sb, sof, rfl, hsc⟩ := HM.out.so.at_ (k := 0) (by omega)
              obtain ⟨tb, tof, rfl, htc⟩ := HM.out.to.at_ (k := 0) (by omega)
              rw [ig_drop] at hsc htc
              simp only [Nat.add_zero] at hsc htc
              obtain ⟨x, hx⟩ : ∃ x, ig sl i = x := ⟨_, rfl⟩
              obtain ⟨y, hy⟩ : ∃ y, ig tm i = y := ⟨_, rfl⟩
              rw [hx] at hoc hsc
              rw [hy] at htc
              have HY := Lib.hid hy
              have hlen : (((s.k - i : Nat) : Int) == 0) = false := beq_false_of_ne (by omega)
              have hlen2 : 0 < s.k - i := by omega
              have hxx : (x != x) = false := by simp
              have hr1 : ∀ W, (Instr.slice 28 (.slice (some ⟨sb, sof, none⟩) (s.k - i) sc') (some (.int .i64 1)) none none).run Try.prog W = .ok (.slice (subA (some ⟨sb, sof, none⟩) 1 sc') (s.k - i - 1) (sc' - 1)) W := fun W => run_from (P := Try.prog) Try.underlying28 elemI (some ⟨sb, sof, none⟩) (s.k - i) sc' 1 (by omega) W
              have hr2 : ∀ W, (Instr.slice 28 (.slice (some ⟨tb, tof, none⟩) (s.k - i) tc') (some (.int .i64 1)) none none).run Try.prog W = .ok (.slice (subA (some ⟨tb, tof, none⟩) 1 tc') (s.k - i - 1) (tc' - 1)) W := fun W => run_from (P := Try.prog) Try.underlying28 elemI (some ⟨tb, tof, none⟩) (s.k - i) tc' 1 (by omega) W
              have hob : on ≤ 200 := by omega
              clear hx hy hL
              go_wp2_with fail
              go_loopw [77] (fun v wx => ∃ i3 : Nat, i3 ≤ k ∧ v = .int .i64 i3 ∧ wx = w5.drewN qq) (fun v _ => k - (intOf v).toNat)
              case atStart => exact ⟨0, Nat.zero_le _, rfl, rfl⟩
              case round =>
                obtain ⟨i3, hi3, rfl, rfl⟩ := hrel
                by_cases hik : i3 < k
                · have hpc := HM.out.pi.cell (k := i3) (by have := HL.out.1; omega)
                  have hsf := HS.out i3 i (by omega) hif
                  rw [HY.out] at hsf
                  obtain ⟨z, hz⟩ : ∃ z, ig pin i3 = z := ⟨_, rfl⟩
                  rw [hz] at hpc hsf
                  by_cases hz0 : 0 < z
                  · have v1 : decide (z > 0) = true := by simpa using hz0
                    have v2 : decide (z < y) = false := by simp; omega
                    clear hz hsf hz0
                    go_wp2_with fail
                    go_roundw
                    case rel => exact ⟨i3 + 1, hik, by go_num, trivial⟩
                    case measure => simp [intOf]; omega
                  · have v1 : decide (z > 0) = false := by simpa using hz0
                    clear hz hsf hz0
                    go_wp2_with fail
                    go_roundw
                    case rel => exact ⟨i3 + 1, hik, by go_num, trivial⟩
                    case measure => simp [intOf]; omega
                · obtain rfl : i3 = k := by omega
                  go_wp2_with fail
                  go_quiet (fail)
                  go_wp2_with fail
                  go_roundw
                  case rel =>
                    have hd := HM.out.drops hlen2 hlen2
                    rw [List.drop_drop, List.drop_drop, Nat.sub_sub] at hd
                    refine ⟨i + 1, _, _, _, _, hif, by go_num, by rw [Nat.sub_sub], by rw [Nat.sub_sub], ?_, _, rfl⟩
                    rw [← World.drewN_drewN]
                    exact hd.drewN _
                  case measure => simp [intOf]; omega
            · obtain rfl : i = on := by omega
              have HM2 := Lib.hid (HM.out.o)
              clear hL HM HO HS
              go_wp2_with fail
              go_roundw
              case rel => exact ⟨j + 1, SA', sc', TA', tc', p, s.freeS, pin, _, _, hlt, by go_num, by rw [hn2.2], by rw [hn2.2], by rw [hn2.2]; exact HM2.out, hI2.out.step, hn2.1⟩
              case measure => simp [intOf]; omega
        · obtain rfl : j = m := by omega
          have hsn := H.out.2.2
          have HI := Lib.hid H.out.2.1
          have hPG := H.out.1.pg
          obtain ⟨kk, hkk⟩ : ∃ x, s.k = x := ⟨_, rfl⟩
          obtain ⟨E, hE⟩ : ∃ x, s.ep = x := ⟨_, rfl⟩
          obtain ⟨a0, ha0⟩ : ∃ x, s.at_ = x := ⟨_, rfl⟩
          have hM := H.out.1
          have hF := H.out.2.1.fin
          have hat0 := H.out.2.1.inv.at_
          rw [hkk] at hM
          rw [hE] at hF
          rw [ha0, hsn] at hat0
          have hat := Lib.hid hat0
          rw [hkk]
          have HST : Hid (MemO w wr g gw gp p s pin sl tm SA kk sc TA kk tc ∧ Fin3 s j E sl ∧ s.n = k ∧ s.ep = E ∧ s.at_ = a0 ∧ ∀ i, i < 0 → s.rec_ i = 0) := ⟨hM, hF, hsn, hE, ha0, fun i hi => by omega⟩
          clear H HD hM hF hkk hE ha0 hat0 HI hsn
          go_wp2_with fail
          go_loopw [181] (fun v wx => ∃ (i : Nat) (s' : EpS), i ≤ k ∧ v = .int .i64 i ∧ Hid (MemO w wx g gw gp p s' pin sl tm SA kk sc TA kk tc ∧ Fin3 s' j E sl ∧ s'.n = k ∧ s'.ep = E ∧ s'.at_ = a0 ∧ ∀ i', i' < i → s'.rec_ i' = 0)) (fun v _ => k - (intOf v).toNat)
          case atStart => exact ⟨0, s, Nat.zero_le _, rfl, HST⟩
          case round =>
            clear HST
            obtain ⟨i, s', hi, rfl, HST⟩ := hrel
            by_cases hik : i < k
            · have hP := Lib.hid (hPG ▸ p_unp HST.out.1.e i)
              go_wp2_with fail
              refine hP.out.mono ?_
              rintro en wZ ⟨rfl, he, ht⟩
              have HS2 : Hid (MemO w wZ g gw gp p (s'.unpS i) pin sl tm SA kk sc TA kk tc ∧ Fin3 (s'.unpS i) j E sl ∧ (s'.unpS i).n = k ∧ (s'.unpS i).ep = E ∧ (s'.unpS i).at_ = a0 ∧ ∀ i', i' < i + 1 → (s'.unpS i).rec_ i' = 0) := by
                obtain ⟨a1, a2, a3, a4, a5, a6⟩ := HST.out
                have hu := fun j => unp_rec (s := s') (i := i) (by omega) j
                refine ⟨a1.prog he ht, a2.unp i, (hu 0).2.1.trans a3, (hu 0).2.2.1.trans a4, (hu 0).2.2.2.trans a5, fun i' hi' => ?_⟩
                rw [(hu i').1]
                split
                · rfl
                · exact a6 i' (by omega)
              clear he ht hP HST
              go_wp2_with fail
              go_roundw
              case rel => exact ⟨i + 1, _, hik, by go_num, HS2⟩
              case measure => simp [intOf]; omega
            · obtain rfl : i = k := by omega
              have HS5 : Hid (MemO w wr g gw gp p s' pin sl tm SA kk sc TA kk tc ∧ Fin3 s' (j + 0) E sl ∧ s'.n = i ∧ (∀ i', i' < i → s'.rec_ i' = 0) ∧ s'.ep * i + s'.at_ = E * i + a0 + 0) := by
                obtain ⟨a1, a2, a3, a4, a5, a6⟩ := HST.out
                exact ⟨a1, a2, a3, a6, by rw [a4, a5]; rfl⟩
              clear HST
              go_wp2_with fail
              go_loopw [190] (fun v wx => ∃ (i5 : Nat) (s' : EpS), i5 ≤ 4 * i ∧ v = .int .i64 i5 ∧ Hid (MemO w wx g gw gp p s' pin sl tm SA kk sc TA kk tc ∧ Fin3 s' (j + i5) E sl ∧ s'.n = i ∧ (∀ i', i' < i → s'.rec_ i' = 0) ∧ s'.ep * i + s'.at_ = E * i + a0 + i5)) (fun v _ => 4 * i - (intOf v).toNat)
              case atStart => exact ⟨0, s', Nat.zero_le _, rfl, HS5⟩
              case round =>
                clear HS5
                obtain ⟨i5, s5, hi5, rfl, H5⟩ := hrel
                by_cases hik5 : i5 < 4 * i
                · have hc5 : decide ((i5 : Int) < 4 * (i : Int)) = true := by simp; omega
                  have hP := Lib.hid (hPG ▸ ep_look p s5 w.heap.size wr H5.out.1.e H5.out.2.1.inv.at_ (by have := H5.out.2.1.inv.ep; omega) H5.out.2.1.inv.n2)
                  go_wp2_with fail
                  refine hP.out.mono ?_
                  rintro en wZ ⟨rfl, he, ht⟩
                  have H6 : Hid (MemO w wZ g gw gp p s5.look pin sl tm SA kk sc TA kk tc ∧ Fin3 s5.look (j + (i5 + 1)) E sl ∧ s5.look.n = i ∧ (∀ i', i' < i → s5.look.rec_ i' = 0) ∧ s5.look.ep * i + s5.look.at_ = E * i + a0 + (i5 + 1)) := by
                    obtain ⟨a1, a2, a3, a4, a5⟩ := H5.out
                    obtain ⟨l1, l2, l3⟩ := look_zero a2.inv.at_ (fun i' h => a4 i' (by omega))
                    rw [a3] at l3
                    exact ⟨a1.prog he ht, a2.look, l1.trans a3, fun i' h => l2 i' (by omega), by omega⟩
                  clear he ht hP H5
                  go_wp2_with fail
                  go_roundw
                  case rel => exact ⟨i5 + 1, _, hik5, by go_num, H6⟩
                  case measure => simp [intOf]; omega
                · obtain rfl : i5 = 4 * i := by omega
                  have hc5 : decide (((4 * i : Nat) : Int) < 4 * (i : Int)) = false := by simp
                  have hend : E + 2 ≤ s5.ep := by
                    obtain ⟨a1, a2, a3, a4, a5⟩ := H5.out
                    have := a2.inv.at_
                    exact looks_end (n := i) hat.out (by omega) a5
                  obtain ⟨ho1, ho2⟩ := H5.out.2.1.all hend
                  have hke : s5.k = kk := by
                    have q1 := H5.out.2.1.sl_
                    have q2 := H5.out.1.so.1
                    omega
                  have hkz : ({ s5 with fl := [] } : EpS).k = 0 := by simp [EpS.k]
                  have hP := Lib.hid (hPG ▸ ep_free p s5 w.heap.size wr H5.out.1.e (by have := H5.out.2.1.inv.k; omega) (by have := H5.out.2.1.inv.ep; omega))
                  rw [ho1, ho2] at hP
                  have hkk2 : kk ≤ 1000 := by have := H5.out.2.1.inv.k; omega
                  clear ho1 ho2 hend
                  go_wp2_with fail
                  refine hP.out.mono ?_
                  rintro en w6 ⟨⟨O, on, oc, rfl, ho⟩, he, ht⟩
                  have hM6 := H5.out.1.prog he ht
                  have hon := (own_rd ho).2
                  have hlen : sl.length = kk := hM6.so.1
                  obtain rfl : on = kk := hon.trans hlen
                  have r1 := (own_rd ho).1
                  have r2 := hM6.so.rd
                  clear ho ht hP H5 hlen hon hke
                  go_wp2_with fail
                  refine (same_ints O SA on on oc sc w6.heap.size sl sl w6 r1 r2 (by omega) (by omega)).mono ?_
                  rw [show sameB sl sl = true from decide_eq_true rfl]
                  rintro en wZ ⟨rfl, qz, rfl⟩
                  have hL := Lib.hid (hPG ▸ ep_limbo p { s5 with fl := [] } w.heap.size (w6.drewN qz) (he.drewN qz) (by rw [hkz]; omega))
                  rw [hkz] at hL
                  have hB := Lib.hid (below_drewN hM6.b qz)
                  clear he hM6 r1 r2
                  go_wp2_with fail
                  refine hL.out.mono ?_
                  rintro en w7 ⟨⟨A7, c7, rfl, _⟩, hb7⟩
                  go_wp2_with fail
                  go_ret
                  exact ⟨rfl, hB.out.trans (hb7.mono hB.out.size)⟩
end Go.Proofs.Ytgcoecibhonfnaa
