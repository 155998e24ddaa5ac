/- Walk of the law TopPinned. -/
import Derived.Test.YtgcoecibhonfnaaTop10
import Derived.Test.YtgcoecibhonfnaaPinP
import Derived.Deep.Cut
namespace Go.Proofs.Ytgcoecibhonfnaa
open Go.RowKit
set_option maxRecDepth 100000 in
set_option maxHeartbeats 8000000 in
theorem topPinned_walk (n who : Int) (A : Option Addr) (m c : Nat) (zs : List Int) (lk : Nat) (hlk : lk < 256) (w : World) (hd : Rd w w.heap.size A m (zs.map (.int .i64))) :
    Calls Try.prog 4 #[.int .i64 n, .int .i64 who, .slice A m c, .int .u8 lk] w fun e w' => e = .returned (.bool true) ∧ Below w.heap.size w w' := by
  have hl := begins10 w
  by_cases hn : n < 1 ∨ 64 < n
  · clear hd
    go_enter Try.func4, Try.ntmps4
    go_wp2_with fail
    refine hl.mono ?_
    rintro e w1 ⟨rfl, hb⟩
    go_wp2_with fail
    refine (ep_new_not n hn w1).mono ?_
    rintro e w' ⟨rfl, rfl⟩
    go_wp2_with fail
    go_ret
    exact ⟨rfl, hb⟩
  · obtain ⟨k, rfl⟩ : ∃ k : Nat, n = k := ⟨n.toNat, by omega⟩
    have hk1 : 1 ≤ k := by omega
    have hk2 : k ≤ 64 := by omega
    clear hn
    by_cases hbad : who < 0 ∨ (k : Int) ≤ who ∨ 40 < m
    · have hc : decide (who < 0) = true ∨ (decide (who < 0) = false ∧ decide (who ≥ (k : Int)) = true) ∨ (decide (who < 0) = false ∧ decide (who ≥ (k : Int)) = false ∧ decide ((m : Int) > 40) = true) := by
        by_cases h1 : who < 0
        · exact Or.inl (by simpa using h1)
        · by_cases h2 : (k : Int) ≤ who
          · exact Or.inr (Or.inl ⟨by simpa using h1, by simpa using h2⟩)
          · exact Or.inr (Or.inr ⟨by simpa using h1, by simpa using h2, by simp; omega⟩)
      clear hd hbad
      rcases hc with t1 | ⟨t1, t2⟩ | ⟨t1, t2, t3⟩
      all_goals
        go_enter Try.func4, Try.ntmps4
        go_wp2_with fail
        refine hl.mono ?_
        rintro e w1 ⟨rfl, hb⟩
        go_wp2_with fail
        refine (ep_new k hk1 hk2 w1).mono ?_
        rintro e w2 ⟨g, gw, rfl, _, hb2⟩
        have hB := Lib.hid (hb.trans (hb2.mono hb.size))
        clear hb hb2
        go_wp2_with fail
        go_ret
        exact ⟨rfl, hB.out⟩
    · obtain ⟨i, rfl⟩ : ∃ i : Nat, who = i := ⟨who.toNat, by omega⟩
      have hik : i < k := by omega
      have hm40 : m ≤ 40 := by omega
      have t1 : decide ((i : Int) < 0) = false := by simp
      have t2 : decide ((i : Int) ≥ (k : Int)) = false := by simp; omega
      have t2' : decide (k ≤ i) = false := by simp; omega
      have t3 : decide ((m : Int) > 40) = false := by simp; omega
      have t3' : decide (40 < m) = false := by simp; omega
      have HD := Lib.hid hd
      clear hd hbad
      go_enter Try.func4, Try.ntmps4
      go_wp2_with fail
      refine hl.mono ?_
      rintro e w1 ⟨rfl, hb⟩
      go_wp2_with fail
      refine (ep_new k hk1 hk2 w1).mono ?_
      rintro e w2 ⟨g, gw, rfl, hE2, hb2⟩
      have HM : Hid (MemP w w2 g gw ⟨g, gw, none, 0⟩ ⟨0, 0, List.replicate (k * 2) 0, []⟩ [] none 0 0) :=
        ⟨⟨hE2.clk, hE2.wrk, own_le hE2.lim hb.size, Nat.le_trans hb.size hE2.gb, Nat.le_trans hb.size hE2.gwb, hE2.ne⟩, OwnO.nil _ _, (fun a h => by cases h), rfl, rfl, hb.trans (hb2.mono hb.size)⟩
      have HZ : Hid (Zs ⟨0, 0, List.replicate (k * 2) 0, []⟩ 0 ∧ (⟨0, 0, List.replicate (k * 2) 0, []⟩ : EpS).n = k) := ⟨Zs.new k hk1 hk2, by simp [EpS.n]⟩
      obtain ⟨p0, hp0⟩ : ∃ x, (⟨g, gw, none, 0⟩ : EpP) = x := ⟨_, rfl⟩
      rw [hp0] at HM
      have hPG : p0.g = g := by rw [← hp0]
      clear hE2 hb2 hb hl hp0
      obtain ⟨lr, hlr⟩ : ∃ x : Nat, lk % 16 = x := ⟨_, rfl⟩
      have hlr' : Hid ((lk : Int) % 16 = (lr : Int)) := by show _ = _; omega
      have hlr2 : lr < 16 := by omega
      clear hlr
      go_wp2_with fail
      go_loopw [51] (fun v wx => ∃ (j : Nat) (s : EpS), j ≤ lr ∧ v = .int .u8 j ∧ Hid (MemP w wx g gw p0 s [] none 0 0 ∧ Zs s j ∧ s.n = k)) (fun v _ => lr - (intOf v).toNat)
      case atStart => exact ⟨0, _, Nat.zero_le _, rfl, HM.out, HZ.out.1, HZ.out.2⟩
      case round =>
        clear HM HZ
        obtain ⟨j, s, hj, rfl, H⟩ := hrel
        by_cases hlt : j < lr
        · have hcl : decide ((j : Int) < (lk : Int) % 16) = true := by rw [hlr'.out]; simp; exact hlt
          have hP := Lib.hid (hPG ▸ ep_look p0 s w.heap.size wr H.out.1.e H.out.2.1.inv.at_ (by have := H.out.2.1.inv.ep; omega) H.out.2.1.inv.n2)
          go_wp2_with fail
          refine hP.out.mono ?_
          rintro en wZ ⟨rfl, he, ht⟩
          have H2 : Hid (MemP w wZ g gw p0 s.look [] none 0 0 ∧ Zs s.look (j + 1) ∧ s.look.n = k) := ⟨H.out.1.prog he rfl rfl (fun k hk => Or.inl hk) ht, H.out.2.1.look, (look_n s).1.trans H.out.2.2⟩
          clear he ht hP H
          go_wp2_with fail
          go_roundw
          case rel => exact ⟨j + 1, _, hlt, by go_num, H2⟩
          case measure => simp [intOf]; omega
        · have hcl : decide ((j : Int) < (lk : Int) % 16) = false := by rw [hlr'.out]; simp; omega
          obtain rfl : j = lr := by omega
          have hsn := H.out.2.2
          obtain ⟨hpb, hPd, hpe, hpn⟩ := H.out.2.1.pin (who := i) (by omega)
          have hld : ∀ q, q < (s.loadS i).n → 0 ≤ (s.loadS i).ld q ∧ (s.loadS i).ld q ≤ 4611686018427387904 := fun q hq => by
            have := (inv_load H.out.2.1.inv (i : Int)).ld q hq
            omega
          have hP := Lib.hid (hPG ▸ p_load H.out.1.e i)
          obtain ⟨E, hE⟩ : ∃ x, s.ep = x := ⟨_, rfl⟩
          rw [hE] at hPd hpe
          have HPD : Hid (Pd ((s.loadS i).pinS i) (j + 0) i E [] ∧ ((s.loadS i).pinS i).ep = E ∧ ((s.loadS i).pinS i).n = k) := ⟨hPd, hpe, hpn.trans hsn⟩
          have HPB := Lib.hid hpb
          have HLD := Lib.hid hld
          clear hpb hPd hpe hpn hld hsn hE
          go_wp2_with fail
          refine hP.out.mono ?_
          rintro en w3 ⟨rfl, he, ht⟩
          have HM3 := Lib.hid (H.out.1.prog he rfl rfl (fun k hk => Or.inl hk) ht)
          have hQ := Lib.hid (hPG ▸ p_pin HM3.out.e HLD.out i)
          rw [HPB.out] at hQ
          clear he ht hP H
          go_wp2_with fail
          refine hQ.out.mono ?_
          rintro en w4 ⟨rfl, he, ht⟩
          have HM4 := Lib.hid (HM3.out.prog he rfl rfl (fun k hk => Or.inl hk) ht)
          obtain ⟨s4, hs4⟩ : ∃ x, (s.loadS i).pinS i = x := ⟨_, rfl⟩
          rw [hs4] at HM4 HPD
          clear he ht hQ HM3 HPB HLD hs4
          have hk0 : Hid (s4.k = 0) := by have := HPD.out.1.sl_; exact this.symm
          go_wp2_with fail
          go_loopw [11, 65] (fun u v wx => ∃ (x : Nat) (s5 : EpS) (p : EpP) (sl : List Int) (SA : Option Addr) (sc : Nat), x ≤ m ∧ v = .int .i64 x ∧ u = .slice SA s5.k sc ∧ Hid (MemP w wx g gw p s5 sl SA s5.k sc ∧ Pd s5 (j + x) i E sl ∧ s5.ep = E ∧ s5.n = k)) (fun _ v _ => m - (intOf v).toNat)
          case atStart => exact ⟨0, s4, p0, [], none, 0, Nat.zero_le _, rfl, by rw [hk0.out], by rw [hk0.out]; exact HM4.out, HPD.out⟩
          case round =>
            clear HM4 HPD hk0 hPG
            obtain ⟨x, s5, p, sl, SA, sc, hx, rfl, rfl, H⟩ := hrel
            have hPG := H.out.1.pg
            by_cases hxm : x < m
            · obtain ⟨b', o, rfl, hbl, hc1⟩ := HD.out.atI hxm
              have hd1 := (H.out.1.b.cell (p := ⟨b', o + x, none⟩) hbl).trans hc1
              obtain ⟨nn, hnn⟩ : ∃ y, ig zs x = y := ⟨_, rfl⟩
              rw [hnn] at hd1
              have hkb : s5.k ≤ 1000 := by have := H.out.2.1.inv.k; omega
              have hP := Lib.hid (hPG ▸ p_ret H.out.1.e H.out.1.b.size (by omega) nn)
              cases hrb : s5.retB nn with
              | false =>
                have e1 : s5.retS nn = s5 := by unfold EpS.retS; rw [hrb]; rfl
                rw [hrb, e1] at hP
                clear hrb e1 hnn hc1 hbl
                go_wp2_with fail
                refine hP.out.mono ?_
                rintro en wZ ⟨rfl, B, d, he, hblk, ht⟩
                have H2 := Lib.hid (H.out.1.prog he hPG.symm rfl hblk ht)
                have H3 : Hid (Pd s5 (j + (x + 1)) i E sl ∧ s5.ep = E ∧ s5.n = k) := ⟨by have h := H.out.2.1; exact ⟨h.inv.mono (by omega), h.wh, h.rw, h.ro, h.ph, h.sl_, h.se, h.ge⟩, H.out.2.2.1, H.out.2.2.2⟩
                clear he ht hblk hP H hd1
                go_wp2_with fail
                go_roundw
                case rel => exact ⟨x + 1, s5, _, sl, SA, sc, hxm, by go_num, rfl, H2.out, H3.out⟩
                case measure => simp [intOf]; omega
              | true =>
                obtain ⟨hPd, hpe, hpn⟩ := H.out.2.1.ret H.out.2.2.1 hrb
                have hkk : (s5.retS nn).k = s5.k + 1 := by unfold EpS.retS; rw [hrb]; simp [EpS.k]
                have H3 : Hid (Pd (s5.retS nn) (j + (x + 1)) i E (sl ++ [nn]) ∧ (s5.retS nn).ep = E ∧ (s5.retS nn).n = k) := ⟨hPd, hpe, hpn.trans H.out.2.2.2⟩
                have HKK := Lib.hid hkk
                rw [hrb] at hP
                clear hrb hnn hc1 hbl hPd hpe hpn hkk
                go_wp2_with fail
                refine hP.out.mono ?_
                rintro en wZ ⟨rfl, B, d, he, hblk, ht⟩
                have H2 := Lib.hid (H.out.1.prog he hPG.symm rfl hblk ht)
                clear he ht hblk hP H hd1
                go_wp2_with (at_builtin; refine wpList_pushO rfl (.tmp 72) (.tmp 74) rfl wZ w.heap.size SA s5.k sc sl nn rfl H2.out.so rfl (by omega) H2.out.b.size ?_; intro A' c' wS ho hA hb hk; have H4 := Lib.hid (H2.out.push ho hA hb hk); clear ho hA hb hk)
                go_roundw
                case rel => exact ⟨x + 1, s5.retS nn, _, _, A', c', hxm, by go_num, by rw [HKK.out], by rw [HKK.out]; exact H4.out, H3.out⟩
                case measure => simp [intOf]; omega
            · obtain rfl : x = m := by omega
              obtain ⟨kk, hkk⟩ : ∃ y, s5.k = y := ⟨_, rfl⟩
              have hkb : kk ≤ 1000 := by have := H.out.2.1.inv.k; omega
              have H3 : Hid (MemP w wr g gw p s5 sl SA kk sc ∧ Pd s5 (j + x + 0) i E sl ∧ s5.n = k) := ⟨by have := H.out.1; rw [hkk] at this; exact this, H.out.2.1, H.out.2.2.2⟩
              rw [hkk]
              clear H hkk HD
              go_wp2_with fail
              go_loopw [79] (fun v wx => ∃ (y : Nat) (s6 : EpS), y ≤ 3 * k ∧ v = .int .i64 y ∧ Hid (MemP w wx g gw p s6 sl SA kk sc ∧ Pd s6 (j + x + y) i E sl ∧ s6.n = k)) (fun v _ => 3 * k - (intOf v).toNat)
              case atStart => exact ⟨0, s5, Nat.zero_le _, rfl, H3⟩
              case round =>
                clear H3
                obtain ⟨y, s6, hy, rfl, H⟩ := hrel
                by_cases hyk : y < 3 * k
                · have hc5 : decide ((y : Int) < 3 * (k : Int)) = true := by simp; omega
                  have hP := Lib.hid (hPG ▸ ep_look p s6 w.heap.size wr H.out.1.e H.out.2.1.inv.at_ (by have := H.out.2.1.inv.ep; omega) H.out.2.1.inv.n2)
                  go_wp2_with fail
                  refine hP.out.mono ?_
                  rintro en wZ ⟨rfl, he, ht⟩
                  have H2 : Hid (MemP w wZ g gw p s6.look sl SA kk sc ∧ Pd s6.look (j + x + (y + 1)) i E sl ∧ s6.look.n = k) := ⟨H.out.1.prog he rfl rfl (fun k hk => Or.inl hk) ht, H.out.2.1.look, (look_n s6).1.trans H.out.2.2⟩
                  clear he ht hP H
                  obtain ⟨s7, hs7⟩ : ∃ z, s6.look = z := ⟨_, rfl⟩
                  rw [hs7] at H2
                  have hQ := Lib.hid (hPG ▸ ep_free p s7 w.heap.size wZ H2.out.1.e (by have := H2.out.2.1.inv.k; omega) (by have := H2.out.2.1.inv.ep; omega))
                  obtain ⟨hf1, hf2⟩ := H2.out.2.1.free
                  rw [hf1, hf2] at hQ
                  clear hf1 hf2 hs7
                  go_wp2_with fail
                  refine hQ.out.mono ?_
                  rintro en w6 ⟨⟨O, on, oc, rfl, ho⟩, he, ht⟩
                  obtain rfl : on = 0 := (own_rd ho).2
                  have H4 := Lib.hid (H2.out.1.prog he rfl rfl (fun k hk => Or.inl hk) ht)
                  clear he ht hQ ho
                  go_wp2_with fail
                  go_roundw
                  case rel => exact ⟨y + 1, s7, hyk, by go_num, H4.out, H2.out.2⟩
                  case measure => simp [intOf]; omega
                · obtain rfl : y = 3 * k := by omega
                  have hc5 : decide (((3 * k : Nat) : Int) < 3 * (k : Int)) = false := by simp
                  have hP := Lib.hid (hPG ▸ p_unp H.out.1.e i)
                  go_wp2_with fail
                  refine hP.out.mono ?_
                  rintro en w7 ⟨rfl, he, ht⟩
                  have HM7 := Lib.hid (H.out.1.prog he rfl rfl (fun k hk => Or.inl hk) ht)
                  obtain ⟨hF, hz, hun, hua, hue⟩ := H.out.2.1.unp
                  have hat := H.out.2.1.inv.at_
                  have hsn := H.out.2.2
                  obtain ⟨s8, hs8⟩ : ∃ z, s6.unpS i = z := ⟨_, rfl⟩
                  rw [hs8] at HM7 hF hz hun hua hue
                  obtain ⟨e8, he8⟩ : ∃ z, s8.ep = z := ⟨_, rfl⟩
                  obtain ⟨a8, ha8⟩ : ∃ z, s8.at_ = z := ⟨_, rfl⟩
                  have HK : Hid (E ≤ e8 ∧ a8 < k) := ⟨by omega, by omega⟩
                  have H8 : Hid (MemP w w7 g gw p s8 sl SA kk sc ∧ Fin3 s8 (j + x + 3 * k + 0) E sl ∧ s8.n = k ∧ (∀ i', i' < k → s8.rec_ i' = 0) ∧ s8.ep * k + s8.at_ = e8 * k + a8 + 0) := ⟨HM7.out, hF, hun.trans hsn, fun i' h => hz i' (by omega), by rw [he8, ha8]; rfl⟩
                  clear he ht hP H hF hz hun hua hue hat hsn HM7 hs8 he8 ha8 hc5
                  go_wp2_with fail
                  go_loopw [93] (fun v wx => ∃ (i5 : Nat) (s' : EpS), i5 ≤ 4 * k ∧ v = .int .i64 i5 ∧ Hid (MemP w wx g gw p s' sl SA kk sc ∧ Fin3 s' (j + x + 3 * k + i5) E sl ∧ s'.n = k ∧ (∀ i', i' < k → s'.rec_ i' = 0) ∧ s'.ep * k + s'.at_ = e8 * k + a8 + i5)) (fun v _ => 4 * k - (intOf v).toNat)
                  case atStart => exact ⟨0, s8, Nat.zero_le _, rfl, H8⟩
                  case round =>
                    clear H8
                    obtain ⟨i5, s9, hi5, rfl, H5⟩ := hrel
                    by_cases hik5 : i5 < 4 * k
                    · have hc5 : decide ((i5 : Int) < 4 * (k : Int)) = true := by simp; omega
                      have hP := Lib.hid (hPG ▸ ep_look p s9 w.heap.size wr H5.out.1.e H5.out.2.1.inv.at_ (by have := H5.out.2.1.inv.ep; omega) H5.out.2.1.inv.n2)
                      go_wp2_with fail
                      refine hP.out.mono ?_
                      rintro en wZ ⟨rfl, he, ht⟩
                      have H6 : Hid (MemP w wZ g gw p s9.look sl SA kk sc ∧ Fin3 s9.look (j + x + 3 * k + (i5 + 1)) E sl ∧ s9.look.n = k ∧ (∀ i', i' < k → s9.look.rec_ i' = 0) ∧ s9.look.ep * k + s9.look.at_ = e8 * k + a8 + (i5 + 1)) := by
                        obtain ⟨a1, a2, a3, a4, a5⟩ := H5.out
                        obtain ⟨l1, l2, l3⟩ := look_zero a2.inv.at_ (fun i' h => a4 i' (by omega))
                        rw [a3] at l3
                        exact ⟨a1.prog he rfl rfl (fun k hk => Or.inl hk) ht, a2.look, l1.trans a3, fun i' h => l2 i' (by omega), by omega⟩
                      clear he ht hP H5
                      go_wp2_with fail
                      go_roundw
                      case rel => exact ⟨i5 + 1, _, hik5, by go_num, H6⟩
                      case measure => simp [intOf]; omega
                    · obtain rfl : i5 = 4 * k := by omega
                      have hc5 : decide (((4 * k : Nat) : Int) < 4 * (k : Int)) = false := by simp
                      have hend : E + 2 ≤ s9.ep := by
                        obtain ⟨a1, a2, a3, a4, a5⟩ := H5.out
                        have := a2.inv.at_
                        have := looks_end (n := k) HK.out.2 (by omega) a5
                        have := HK.out.1
                        omega
                      obtain ⟨ho1, ho2⟩ := H5.out.2.1.all hend
                      have hP := Lib.hid (hPG ▸ ep_free p s9 w.heap.size wr H5.out.1.e (by have := H5.out.2.1.inv.k; omega) (by have := H5.out.2.1.inv.ep; omega))
                      rw [ho1, ho2] at hP
                      clear ho1 ho2 hend
                      go_wp2_with fail
                      refine hP.out.mono ?_
                      rintro en w6 ⟨⟨O, on, oc, rfl, ho⟩, he, ht⟩
                      have hM6 := H5.out.1.prog he rfl rfl (fun k hk => Or.inl hk) ht
                      have hon := (own_rd ho).2
                      have hlen : sl.length = kk := hM6.so.1
                      obtain rfl : on = kk := hon.trans hlen
                      have R1 := Lib.hid (own_rd ho).1
                      have R2 := Lib.hid hM6.so.rd
                      have hB := Lib.hid hM6.b
                      clear ho ht hP H5 hlen hon he hM6
                      go_wp2_with fail
                      go_loopw [107] (fun v wx => ∃ i7 : Nat, i7 ≤ on ∧ v = .int .i64 i7 ∧ ∃ qq, wx = w6.drewN qq) (fun v _ => on - (intOf v).toNat)
                      case atStart => exact ⟨0, Nat.zero_le _, rfl, 0, rfl⟩
                      case round =>
                        obtain ⟨i7, hi7, rfl, qq, rfl⟩ := hrel
                        by_cases h7 : i7 < on
                        · obtain ⟨b1, o1, rfl, _, q1⟩ := R1.out.atI h7
                          obtain ⟨b2, o2, rfl, _, q2⟩ := R2.out.atI h7
                          have hxx : (ig sl i7 != ig sl i7) = false := by simp
                          go_wp2_with fail
                          go_quiet (fail)
                          go_wp2_with fail
                          go_roundw
                          case rel => exact ⟨i7 + 1, h7, by go_num, _, rfl⟩
                          case measure => simp [intOf]; omega
                        · obtain rfl : i7 = on := by omega
                          go_wp2_with fail
                          go_ret
                          exact ⟨rfl, below_drewN hB.out qq⟩
theorem topPinned_any (n who : Int) (A : Option Addr) (m c : Nat) (zs : List Int) (l : Int) (hl : 0 ≤ l ∧ l ≤ 255) (w : World) (hd : Rd w w.heap.size A m (zs.map (.int .i64))) :
    Calls Try.prog 4 #[.int .i64 n, .int .i64 who, .slice A m c, .int .u8 l] w fun e w' => e = .returned (.bool true) ∧ Below w.heap.size w w' := by
  obtain ⟨k, rfl⟩ : ∃ k : Nat, l = k := ⟨l.toNat, by omega⟩
  exact topPinned_walk n who A m c zs k (by omega) w hd
end Go.Proofs.Ytgcoecibhonfnaa
