/- TopHanded: law and walk. -/
import Derived.Test.YtoodifpkconfcaaHnC
namespace Go.Proofs.Ytoodifpkconfcaa
open Go.RowKit
set_option maxRecDepth 100000 in
set_option maxHeartbeats 8000000 in
theorem handed_walk (A : Option Addr) (n c : Nat) (ws : List Int) (L : Int) (w : World) (hr : Rd w w.heap.size A n (ws.map (.int .i64))) (hnc : n ≤ c) (hn : n ≤ maxLen) :
    Calls Try.prog 4 #[.slice A n c, .int .i64 L] w (fun e w' => e = .returned (.bool true) ∧ Below w.heap.size w w') := by
  have HB := Lib.hid (begins9_true w)
  have hwl : ws.length = n := hr.lenI
  by_cases h40 : n ≤ 40
  · have t1 : decide ((n : Int) > 40) = false := decide_eq_false (by omega)
    have t2 : decide (40 < n) = false := decide_eq_false (by omega)
    have HR := Lib.hid hr
    have HWL := Lib.hid hwl
    clear hr hwl
    go_enter Try.func4, Try.ntmps4
    go_upto_region 6 with (go_at_call 6; (refine HB.out.mono ?_); rintro e w1 ⟨rfl, hb1⟩; have HB1 := Lib.hid hb1; clear hb1)
    go_loopw [6, 21] (fun _ s21 wr => ∃ (j : Nat), j ≤ n ∧ s21 = .int .i64 j ∧ Hid (∀ k, k < j → 0 ≤ ig ws k ∧ ig ws k ≤ 64) ∧ Hid (wr = w1)) (fun _ s21 _ => n - (RowKit.intOf s21).toNat)
    case atStart => exact ⟨0, Nat.zero_le _, rfl, Lib.hid (fun k h => absurd h (Nat.not_lt_zero _)), Lib.hid rfl⟩
    case round =>
      obtain ⟨j, hj, rfl, HALL, HWE⟩ := hrel
      have hwe := HWE.out
      subst hwe
      by_cases hlt : j < n
      · obtain ⟨b, o, rfl, _, hc⟩ := (HR.out.below HB1.out).atI hlt
        have HLT := Lib.hid hlt
        obtain ⟨z, hz⟩ : ∃ z, ig ws j = z := ⟨_, rfl⟩
        rw [hz] at hc
        have HZ := Lib.hid hz
        clear hz
        by_cases h0 : 0 ≤ z ∧ z ≤ 64
        · have z1 : decide (z < 0) = false := decide_eq_false (by omega)
          have z2 : decide (z > 64) = false := decide_eq_false (by omega)
          have HA2 : Hid (∀ k, k < j + 1 → 0 ≤ ig ws k ∧ ig ws k ≤ 64) := fun k hk => by
            by_cases e : k = j
            · subst e; rw [HZ.out]; exact h0
            · exact HALL.out k (by omega)
          go_wp2_with fail
          go_roundw
          case rel => exact ⟨j + 1, by have := HLT.out; omega, by go_num, HA2, by first | trivial | exact Lib.hid rfl⟩
          case measure => have := HLT.out; simp [RowKit.intOf]; omega
        · have H0 := Lib.hid h0
          clear h0
          cases z1 : decide (z < 0)
          all_goals
            first
              | have z2 : decide (z > 64) = true := decide_eq_true (by have := of_decide_eq_false z1; have := H0.out; omega)
              | skip
            go_wp2_with fail
            go_ret
            exact ⟨rfl, HB1.out⟩
      · obtain rfl : j = n := by omega
        have HNX := Lib.hid (rc_new wr)
        clear hlt
        go_upto_region 12 with (first
          | (go_at_call 7; (with_reducible refine HNX.out.mono ?_); rintro e w2 ⟨xb, xs, xd, rfl, hS1, hb2, hx1, hx2, hx3⟩; have HS1 := Lib.hid hS1; have HB2 := Lib.hid hb2; have HX := Lib.hid (show wr.heap.size ≤ xb ∧ wr.heap.size ≤ xs ∧ wr.heap.size ≤ xd from ⟨hx1, hx2, hx3⟩); have HNY := Lib.hid (rc_new w2); clear hS1 hb2 hx1 hx2 hx3)
          | (go_at_call 7; (with_reducible refine HNY.out.mono ?_); rintro e w3 ⟨yb, ys, yd, rfl, hS1, hb2, hx1, hx2, hx3⟩; have HS2 := Lib.hid hS1; have HB3 := Lib.hid hb2; have HY := Lib.hid (show w2.heap.size ≤ yb ∧ w2.heap.size ≤ ys ∧ w2.heap.size ≤ yd from ⟨hx1, hx2, hx3⟩); clear hS1 hb2 hx1 hx2 hx3))
        have HI : Hid (HnS w w3 ws L xb xs xd yb ys yd 0) := ⟨_, _, _, _, _, _, _, _, _, _, _, _, _, HS1.out.below HB3.out, HS2.out, ⟨fun k hk q => by
            have h1 := HS1.out.ltF k hk
            have h2 := HY.out
            rcases q with rfl | rfl | rfl <;> omega, fun k hk => by
            have h1 := HX.out
            have h2 := HY.out
            have h3 := HB1.out.size
            have h4 := HB2.out.size
            rcases hk with (rfl | rfl | rfl) | (rfl | rfl | rfl) <;> omega, fun k hk => by
            rcases hk with hk | hk
            · exact Nat.lt_of_lt_of_le (HS1.out.ltF k hk) HB3.out.size
            · exact HS2.out.ltF k hk, (HB1.out.trans (HB2.out.mono HB1.out.size)).trans (HB3.out.mono (Nat.le_trans HB1.out.size HB2.out.size))⟩, HxI.start, HyI.start ws L, Nat.le_refl _, Nat.le_refl _⟩
        clear HS1 HS2 HB1 HB2 HB3 HX HY HNX HNY HB hj
        go_upto_region 15 with fail
        obtain ⟨n, hnn⟩ : ∃ q : Nat, q = j := ⟨_, rfl⟩
        subst hnn
        have n40 : (n : Int) < 41 := by omega
        have HN40 := Lib.hid h40
        clear h40 hn
        go_loopw [9, 10, 42] (fun _ _ s42 W => ∃ (i : Nat), i ≤ n ∧ s42 = .int .i64 i ∧ Hid (HnS w W ws L xb xs xd yb ys yd i)) (fun _ _ s42 _ => n - (RowKit.intOf s42).toNat)
        case atStart => exact ⟨0, Nat.zero_le _, rfl, HI⟩
        case round =>
          clear HI
          obtain ⟨i, hi, rfl, HI⟩ := hrel
          by_cases hlt : i < n
          · have HLT := Lib.hid hlt
            obtain ⟨z, hz⟩ : ∃ z, ig ws i = z := ⟨_, rfl⟩
            have hz6 := HALL.out i hlt
            rw [hz] at hz6
            obtain ⟨u, rfl⟩ : ∃ u : Nat, z = (u : Int) := ⟨z.toNat, by omega⟩
            have HU : Hid (u < 65) := by show u < 65; omega
            have HZ := Lib.hid hz
            have HR3 : Hid (Rd wr wr.heap.size A n (ws.map (.int .i64))) := by
              obtain ⟨F, G, ck, fs, nt, sl, N, ck', fs', nt', sl', m, N', h1, h2, h3, h4⟩ := HI.out
              exact (HR.out.below h3.b).more h3.b.size
            obtain ⟨b, o, rfl, _, hc⟩ := HR3.out.atI hlt
            rw [hz] at hc
            have i40 : (i : Int) < 40 := by have := HN40.out; omega
            have e1 : wrap64 ((i : Int) - 1) = (i : Int) - 1 := by unfold wrap64; omega
            have HI40 : Hid (i < 40) := by show i < 40; omega
            have HE1 := Lib.hid e1
            have t4 : decide (i < n) = true := decide_eq_true hlt
            clear hz hz6 HR3 hlt e1
            go_upto_region 17 with fail
            clear hc
            obtain ⟨tt, htt⟩ : ∃ t : Bool, decide (0 < i) = t := ⟨_, rfl⟩
            have HTT := Lib.hid htt
            have t5 : decide ((i : Int) > 0) = tt := by rw [← htt]; exact decide_eq_decide.2 (by omega)
            go_upto_if 48 with fail
            (try go_frame)
            go_cut [] from 49 to 62 (fun W => Hid (HnL w W ws L xb xs xd yb ys yd i u (decide (0 < i ∧ (i : Int) ≠ L))))
            case first =>
              cases tt
              case false =>
                have H0 := Lib.hid (of_decide_eq_false HTT.out)
                go_wp2_with fail
                go_meet
                case rel => exact HI.out.zero H0.out u
              case true =>
                have H0 := Lib.hid (of_decide_eq_true HTT.out)
                have HLX := Lib.hid (HI.out.loadx H0.out (Nat.le_of_lt HI40.out) HU.out)
                have e1 := HE1.out
                by_cases e : (i : Int) = L
                · have t6 : ((i : Int) != L) = false := by simp [e]
                  have HE := Lib.hid e
                  clear e
                  go_wp2_with (go_at_call 10; (with_reducible refine HLX.out.mono ?_); rintro e W1 ⟨rfl, hl⟩; have HL := Lib.hid hl; clear hl)
                  go_meet
                  case rel => rw [decide_eq_false (fun q => q.2 HE.out)]; exact HL.out
                · have t6 : ((i : Int) != L) = true := by simp [e]
                  have HE := Lib.hid e
                  clear e
                  go_wp2_with (first
                    | (go_at_call 10; (with_reducible refine HLX.out.mono ?_); rintro e W1 ⟨rfl, hl⟩; have HLY := Lib.hid (hl.loady H0.out (Nat.le_of_lt HI40.out) HU.out); clear hl)
                    | (go_at_call 10; (with_reducible refine HLY.out.mono ?_); rintro e W2 ⟨rfl, hl⟩; have HL := Lib.hid hl; clear hl))
                  go_meet
                  case rel => rw [decide_eq_true ⟨H0.out, HE.out⟩]; exact HL.out
            case rest =>
              clear HI HTT HE1
              obtain ⟨F, G, ck, fs, nt, sl, N, ck', fs', nt', sl', m, N', h1, h2, h3, h4, h5, h6, h7⟩ := hcut.out
              obtain ⟨C, hC⟩ : ∃ C, ckL ck fs u ((i : Int) - 1) (decide (0 < i)) = C := ⟨_, rfl⟩
              obtain ⟨C', hC'⟩ : ∃ C', ckL ck' fs' u ((i : Int) - 1) (decide (0 < i ∧ (i : Int) ≠ L)) = C' := ⟨_, rfl⟩
              have hp : PosK ((i : Int) + 1) (C u) := by rw [← hC]; exact ckL_pos (by omega) h4.pk h4.pf HU.out _ _ u HU.out
              have hp' : PosK ((i : Int) + 1) (C' u) := by rw [← hC']; exact ckL_pos (by omega) h5.pk h5.pf HU.out _ _ u HU.out
              have hb : 0 ≤ ig (C u) u ∧ ig (C u) u ≤ 1048576 := by have := hp.2 u HU.out; omega
              have hb' : 0 ≤ ig (C' u) u ∧ ig (C' u) u ≤ 1048576 := by have := hp'.2 u HU.out; omega
              have hi4 := HI40.out
              have hm5 := h5.mi
              have HMM : Hid (m ≤ 1000) := by show m ≤ 1000; omega
              have HNN : Hid (N ≤ 4 * i) := h6
              have HNN' : Hid (N' ≤ 4 * i) := h7
              rw [hC] at h1
              rw [hC'] at h2
              have HX := Lib.hid h1
              have HY := Lib.hid h2
              have HT := Lib.hid h3
              have HXI := Lib.hid h4
              have HYI := Lib.hid h5
              have HBB := Lib.hid hb
              have HBB' := Lib.hid hb'
              have HCC := Lib.hid hC
              have HCC' := Lib.hid hC'
              have HRD := Lib.hid (rc_read h1 (by omega) (by omega) u HU.out 7 (wf_small (by omega)) hb)
              clear h1 h2 h3 h4 h5 h6 h7 hC hC' hp hp' hb hb' hi4 hm5 hcut
              go_upto_region 22 with (go_at_call 13; (with_reducible refine HRD.out.mono ?_); rintro e W1 ⟨F1, sl1, r1, kn1, rfl, hq⟩; have HQ1 := Lib.hid hq; clear hq)
              obtain ⟨q1, q2, q3, q4, q5⟩ := HQ1.out
              have hkk := HXI.out.knows HU.out q1
              rw [HCC.out] at hkk
              obtain rfl : kn1 = true := q2.trans hkk.1
              rw [if_pos rfl] at q3
              obtain ⟨T1, HY1⟩ := HT.out.stepx q3 HY.out q4 q5
              have HKK := Lib.hid hkk
              have HX1 := Lib.hid q3
              have HT1 := Lib.hid T1
              have HY1 := Lib.hid HY1
              have HWR := Lib.hid (rc_write q3 (by have := HNN.out; have := HI40.out; omega) (by omega) u HU.out 7 (wf_small (by omega)))
              clear q1 q2 q3 q4 q5 hkk T1 HQ1 HRD HX HY HT
              go_upto_region 23 with (go_at_call 14; (with_reducible refine HWR.out.mono ?_); rintro e W2 hq; obtain ⟨F2, sl2, r2, kn2, ks2, rfl, hq⟩ := hq; have HQ2 := Lib.hid hq; clear hq)
              obtain ⟨q1, q2, q3, q4, q5, q6⟩ := HQ2.out
              obtain rfl : r2 = ⟨r1.b, r1.rb, r1.ww, r1.wt, r1.wr, upO r1.rs (u : Int) (ig (C u) u)⟩ := by
                rcases q1 with q1 | ⟨q1, _⟩
                · rw [upO_self] at q1; exact (Option.some.inj q1).symm
                · rw [upO_self] at q1; cases q1
              have hkk := HKK.out
              obtain rfl : kn2 = true := by rw [q3, hkk.1, mxK (by rw [hkk.2]) q2]; rfl
              rw [if_pos rfl] at q4
              obtain ⟨T2, HY2⟩ := HT1.out.stepx q4 HY1.out q5 q6
              have HX2 := Lib.hid q4
              have HT2 := Lib.hid T2
              have HY2 := Lib.hid HY2
              have HST := Lib.hid (rc_store q4 u HU.out (i : Int) (wf_small (by have := HI40.out; omega)) (by have := HNN.out; have := HI40.out; omega) HBB.out)
              clear q1 q2 q3 q4 q5 q6 hkk T2 HQ2 HWR HX1 HY1 HT1 HKK
              go_upto_region 24 with (go_at_call 8; (with_reducible refine HST.out.mono ?_); rintro e W3 ⟨rfl, hq⟩; have HQ3 := Lib.hid hq; clear hq)
              obtain ⟨q1, q2⟩ := HQ3.out
              obtain ⟨T3, HY3⟩ := HT2.out.stepx q1 HY2.out q2 (fun _ q => .inl q)
              have HX3 := Lib.hid q1
              have HT3 := Lib.hid T3
              have HWR := Lib.hid (rc_write HY3 (by have := HNN'.out; have := HI40.out; omega) (by have := HMM.out; omega) u HU.out 7 (wf_small (by omega)))
              clear q1 q2 T3 HQ3 HST HX2 HY2 HT2 HY3
              go_upto_region 25 with (go_at_call 14; (with_reducible refine HWR.out.mono ?_); rintro e W4 hq; obtain ⟨F4, sl4, r4, kn4, ks4, rfl, hq⟩ := hq; have HQ4 := Lib.hid hq; clear hq)
              obtain ⟨q1, q2, q3, q4, q5, q6⟩ := HQ4.out
              obtain rfl : ks4 = [] := ks_nil (HYI.out.none_ q1) q2
              have hk4 : kn4 = (!r4.wr || knC (C' u) u r4.ww r4.wt) := by rw [q3]; simp
              rw [← HCC'.out] at hk4
              have hst := HYI.out.step HU.out HZ.out q1 (bl := decide (0 < i ∧ (i : Int) ≠ L)) rfl hk4 (upO_self nt' 7 ⟨r4.b, r4.rb, u, ig (ckL ck' fs' u ((i : Int) - 1) (decide (0 < i ∧ (i : Int) ≠ L)) u) u, true, fun _ => none⟩)
              obtain ⟨T4, HX4⟩ := HT3.out.swap.stepx q4 HX3.out q5 q6
              have HYJ := Lib.hid hst
              have HX4 := Lib.hid HX4
              have HT4 := Lib.hid T4
              have HST := Lib.hid (rc_store q4 u HU.out (i : Int) (wf_small (by have := HI40.out; omega)) (by have := HNN'.out; have := HI40.out; omega) HBB'.out)
              clear q1 q2 q3 q4 q5 q6 hk4 hst T4 HQ4 HWR HX3 HT3
              go_wp2_with (go_at_call 8; (with_reducible refine HST.out.mono ?_); rintro e W5 ⟨rfl, hq⟩; have HQ5 := Lib.hid hq; clear hq)
              obtain ⟨q1, q2⟩ := HQ5.out
              obtain ⟨T5, HX5⟩ := HT4.out.stepx q1 HX4.out q2 (fun _ q => .inl q)
              have hxj := HXI.out.step HU.out (upO_self (upO nt 7 ⟨r1.b, r1.rb, r1.ww, r1.wt, r1.wr, upO r1.rs (u : Int) (ig (C u) u)⟩) 7 ⟨r1.b, r1.rb, u, ig (ckL ck fs u ((i : Int) - 1) (decide (0 < i)) u) u, true, fun _ => none⟩)
              rw [HCC.out] at hxj
              have hyj := HYJ.out
              rw [HCC'.out] at hyj
              have HFIN : Hid (HnS w W5 ws L xb xs xd yb ys yd (i + 1)) := ⟨_, _, _, _, _, _, _, _, _, _, _, _, _, HX5, q1, T5.swap, hxj, hyj, by have := HNN.out; omega, by have := HNN'.out; omega⟩
              clear q1 q2 T5 HX5 hxj hyj HQ5
              go_roundw
              case rel => first | exact ⟨i + 1, by have := HLT.out; omega, by go_num, HFIN⟩ | ((repeat apply Exists.intro); refine ⟨?_, rfl⟩; exact ⟨i + 1, by have := HLT.out; omega, by go_num, HFIN⟩)
              case measure => have := HLT.out; simp [RowKit.intOf]; omega
          · obtain rfl : i = n := by omega
            obtain ⟨W0, hW⟩ : ∃ q, q = wr := ⟨_, rfl⟩
            subst hW
            obtain ⟨F, G, ck, fs, nt, sl, N, ck', fs', nt', sl', m, N', h1, h2, h3, h4, h5, h6, h7⟩ := HI.out
            have hm5 := h5.mi
            have hn4 := HN40.out
            have HCX := Lib.hid (rc_clashes h1 (by omega))
            have HCY : Hid (∀ W, Below W0.heap.size W0 W → Calls Try.prog 15 #[.pointer (some ⟨yb, 0, none⟩)] W (fun e w' => (∃ A c, e = .returned (.slice A m c)) ∧ Below W.heap.size W w')) := fun W hb => rc_clashes (h2.below hb) (by omega)
            have HCL := Lib.hid h5.cl
            have HB0 := Lib.hid h3.b
            have HR3 : Hid (Rd W0 W0.heap.size A i (ws.map (.int .i64))) := (HR.out.below h3.b).more h3.b.size
            clear h1 h2 h3 h4 h5 h6 h7 hm5 hn4 HI HR hlt
            by_cases hL : 0 < L ∧ L < i
            · obtain ⟨l, rfl⟩ : ∃ l : Nat, L = (l : Int) := ⟨L.toNat, by omega⟩
              have hl : l < i := by omega
              have hl0 : 0 < l := by omega
              have t7 : decide ((l : Int) > 0) = true := decide_eq_true (by omega)
              have t7' : decide (0 < l) = true := decide_eq_true (by omega)
              have t8 : decide (l < i) = true := decide_eq_true (by omega)
              obtain ⟨b, o, rfl, _, hc⟩ := HR3.out.atI hl
              obtain ⟨y, hy⟩ : ∃ y, ig ws l = y := ⟨_, rfl⟩
              rw [hy] at hc
              have HYY := Lib.hid hy
              have hsl := fun w => run_hi (P := Try.prog) Try.underlying26 elemIH (some ⟨b, o, none⟩) i c l (by omega) w
              have HL1 := Lib.hid hl
              have HL0 := Lib.hid hl0
              have HC := Lib.hid hc
              clear hL hy hc hl hl0
              go_upto_region 31 with fail
              go_loopw [11, 13, 92] (fun s11 _ s92 W => ∃ (k : Nat), k ≤ l ∧ s92 = .int .i64 k ∧ s11 = .bool (clK ws l k) ∧ Hid (W = W0)) (fun _ _ s92 _ => l - (RowKit.intOf s92).toNat)
              case atStart => exact ⟨0, Nat.zero_le _, rfl, rfl, Lib.hid rfl⟩
              case round =>
                obtain ⟨k, hk, rfl, rfl, HWE⟩ := hrel
                have hwe := HWE.out
                subst hwe
                obtain ⟨cb, hcb⟩ : ∃ cb, clK ws l k = cb := ⟨_, rfl⟩
                have HCB := Lib.hid hcb
                rw [hcb]
                clear hcb
                by_cases hlt : k < l
                · have HLT := Lib.hid hlt
                  obtain ⟨b', o', he, _, hc'⟩ := HR3.out.atI (Nat.lt_trans hlt HL1.out)
                  injection he with he
                  injection he with he1 he2
                  subst he1
                  subst he2
                  obtain ⟨z, hz⟩ : ∃ z, ig ws k = z := ⟨_, rfl⟩
                  rw [hz] at hc'
                  have HZ := Lib.hid hz
                  have hc := HC.out
                  obtain ⟨tb, htb⟩ : ∃ tb : Bool, (z != y) = tb := ⟨_, rfl⟩
                  have HNX : Hid (clK ws l (k + 1) = (cb && tb)) := by
                    show _ = _
                    rw [clK_succ (by rw [HWL.out]; exact Nat.lt_trans hlt HL1.out), HCB.out, hz, HYY.out, ← htb]
                    rfl
                  have k40 : (k : Int) < 40 := by have := HLT.out; have := HL1.out; have := HN40.out; omega
                  clear hz hlt
                  cases cb
                  all_goals
                    go_wp2_with fail
                    go_roundw
                    case rel => exact ⟨k + 1, by have := HLT.out; omega, by go_num, by rw [HNX.out]; rfl, by first | trivial | exact Lib.hid rfl⟩
                    case measure => have := HLT.out; simp [RowKit.intOf]; omega
                · obtain rfl : k = l := by omega
                  cases cb
                  case false =>
                    clear hlt
                    go_wp2_with (go_at_call 15; (with_reducible refine HCX.out.mono ?_); rintro e W1 ⟨⟨A1, c1, rfl⟩, hb1⟩; have HB1 := Lib.hid (HB0.out.trans (hb1.mono HB0.out.size)); clear hb1)
                    go_ret
                    exact ⟨rfl, HB1.out⟩
                  case true =>
                    have hm := HCL.out k rfl HL0.out HL1.out (by rw [HYY.out]; exact all_take_ne (by rw [HWL.out]; exact Nat.le_of_lt HL1.out) (by have := HCB.out; unfold clK at this; rw [HYY.out] at this; exact this))
                    have t9 : decide ((m : Int) > 0) = true := decide_eq_true (by omega)
                    have t10 : decide (0 < m) = true := decide_eq_true hm
                    clear hlt
                    go_wp2_with (first
                      | (go_at_call 15; (with_reducible refine HCX.out.mono ?_); rintro e W1 ⟨⟨A1, c1, rfl⟩, hb1⟩; have HB1 := Lib.hid (HB0.out.trans (hb1.mono HB0.out.size)); have HC2 := Lib.hid (HCY.out W1 hb1); clear hb1)
                      | (go_at_call 15; (with_reducible refine HC2.out.mono ?_); rintro e W2 ⟨⟨A2, c2, rfl⟩, hb2⟩; have HB2 := Lib.hid (HB1.out.trans (hb2.mono HB1.out.size)); clear hb2))
                    go_ret
                    exact ⟨rfl, HB2.out⟩
            · have HL := Lib.hid hL
              cases t7 : decide (L > 0)
              all_goals
                first
                  | have t8 : decide (L < (i : Int)) = false := decide_eq_false (by have := of_decide_eq_true t7; have := HL.out; omega)
                  | skip
                clear hL
                go_wp2_with (go_at_call 15; (with_reducible refine HCX.out.mono ?_); rintro e W1 ⟨⟨A1, c1, rfl⟩, hb1⟩; have HB1 := Lib.hid (HB0.out.trans (hb1.mono HB0.out.size)); clear hb1)
                go_ret
                exact ⟨rfl, HB1.out⟩
  · have t1 : decide ((n : Int) > 40) = true := decide_eq_true (by omega)
    have t2 : decide (40 < n) = true := decide_eq_true (by omega)
    clear hr
    go_enter Try.func4, Try.ntmps4
    go_wp2_with (go_at_call 6; (refine HB.out.mono ?_); rintro e w1 ⟨rfl, hb1⟩; have HB1 := Lib.hid hb1; clear hb1)
    go_ret
    exact ⟨rfl, HB1.out⟩
end Go.Proofs.Ytoodifpkconfcaa
