/- Planes: whether the ring is right, walked. -/
import Derived.Test.YtbpcddimnbjoeaaPlS
import Derived.Test.YtbpcddimnbjoeaaYlP
import Derived.Shelf.Abstract
import Derived.Deep.RegionHeld
namespace Go.Proofs.Ytbpcddimnbjoeaa
open Go.RowKit Go.Maps Go.ChangeMaps Go.MapKept
theorem yieldsIf_eqlI {P : Program} {ops : Array Oper} {S : World → Prop} {o : Oper} {a : Act} {t t' : TypeId} {k : IntKind} {m n : Int} (hw : Region.wanted o (yielded ops a.tmps) = true) (x y : Operand) (ho : o.op = .binOp .eql t x y t') (hx : a.eval x = .int k m) (hy : a.eval y = .int k n) :
    YieldsIf P ops S o (.bool (m == n)) a := by
  refine .inl ⟨hw, fun w _ => ?_⟩
  unfold execOp
  simp only [ho, hx, hy]
  simp [go_sem]
set_option maxRecDepth 100000 in
set_option maxHeartbeats 4000000 in
theorem pl_ringB (A : Option Addr) (n c : Nat) (ns : List ND) (en tp : Int) (w : World) (hg : PgAt w w.heap.size A n c ns) :
    Calls Try.prog 35 #[.agg (pgL A n c en tp)] w (RetB (ringB ns) w) := by
  obtain ⟨w1, hw1⟩ : ∃ x, w.alloc (.cells (pgL A n c en tp) 24) = x := ⟨_, rfl⟩
  obtain ⟨C1, b1⟩ := box_plane hw1
  have hlen := hg.len
  have hn := hg.2.1
  have HG := Lib.hid (hg.on b1 b1.size)
  have HC := Lib.hid C1
  have HL := Lib.hid hlen
  have c0 : w1.cell? ⟨w.heap.size, 0, none⟩ = some (.slice A n c) := C1.cell 0
  have HB := Lib.hid b1
  have hbl := Lib.hid C1.lt
  clear hg C1 hlen b1
  have eg1 : ∀ args w, (callFunc 61 args).run Try.prog w = .ok (.enter 61 args) w := enters_of Try.func61 (by kernel_rfl) rfl
  have eg2 : ∀ args w, (callFunc 62 args).run Try.prog w = .ok (.enter 62 args) w := enters_of Try.func62 (by kernel_rfl) rfl
  unfold pgL at hw1 ⊢
  go_enter Try.func35, Try.ntmps35
  go_upto_region 1 with fail
  (try rw [hw1])
  clear hw1
  go_wp2_with fail
  go_loopw [11] (fun s11 wr => ∃ j : Nat, j ≤ n ∧ s11 = .int .i64 j ∧ Hid (∀ k, k < j → rOk ns k = true) ∧ Hid (Below w1.heap.size w1 wr)) (fun s11 _ => n - (intOf s11).toNat)
  case atStart => exact ⟨0, Nat.zero_le _, rfl, Lib.hid (fun k hk => absurd hk (by omega)), Lib.hid (Below.refl _ _)⟩
  case round =>
    obtain ⟨j, hj, rfl, hq, hb'⟩ := hrel
    by_cases hlt : j < n
    · have bR := hb'.out
      have GR := HG.out.on bR bR.size
      obtain ⟨b, o, d, hA, hbb, hd, hr, hda⟩ := GR.node hlt
      have LN := node_load hr
      have SN := node_put wr d
      have K1 := node_at wr d
      have bX := node_bel wr d
      obtain ⟨X1, hX1⟩ : ∃ y, (wr.alloc (.cells nd0.cells 42)).setCells wr.heap.size 0 d.cells.toList = y := ⟨_, rfl⟩
      rw [hX1] at SN K1 bX
      rw [nd0_lit] at SN
      have bX1 := bR.trans (bX.mono bR.size)
      have HBX := Lib.hid bX1
      have HGX := Lib.hid (GR.on bX bX.size)
      have HCX := Lib.hid (HC.out.below bX1 hbl.out)
      have HKX := Lib.hid K1
      have hdn := nAt_of hd
      have hok : rOk ns j = if (decide (0 < j) && !thN ns j) then bareB d else placeB ns d.next && placeB ns d.prev && ((nAt ns d.next.toNat).prev == (j : Int)) := by unfold rOk; rw [hdn]
      have hjl : j < ns.length := by have := HL.out; omega
      have hbad := fun h => ringB_bad (ns := ns) hjl h
      have hst : rOk ns j = true → Hid (∀ k, k < j + 1 → rOk ns k = true) := by
        intro h k hk
        by_cases e : k = j
        · rw [e]; exact h
        · exact hq.out k (by omega)
      have LPX := plane_load HCX.out
      have hne1 : w1.heap.size ≤ wr.heap.size := bR.size
      have hcc0 : ∀ Y, Below X1.heap.size X1 Y → Y.cell? ⟨w.heap.size, 0, none⟩ = some (.slice A n c) := fun Y hY => (HCX.out.below hY HCX.out.lt).cell 0
      have HC0 := Lib.hid hcc0
      subst hA
      clear hd hr hda hdn hX1 K1 bX bX1 GR bR hcc0 hjl
      have HT := pl_there (some ⟨b, o, none⟩) n c ns en tp j X1 HGX.out
      rw [thB_nat] at HT
      unfold pgL at LPX HT
      go_upto_region 6 with (first | refine wpList_loadE LN _ rfl rfl rfl ?_ | refine wpList_storeE SN _ _ rfl rfl rfl rfl ?_)
      clear LN SN
      by_cases h0 : 0 < j
      · have hd0 : decide (0 < j) = true := decide_eq_true h0
        cases hth : thN ns j with
        | false =>
          rw [hth] at HT
          replace HT := Lib.hid HT
          have hcond : (decide (0 < j) && !thN ns j) = true := by rw [hd0, hth]; rfl
          cases hbr : bareB d with
          | true =>
            have HQ := hst (by rw [hok, hcond, if_pos rfl, hbr])
            clear hok hbad hst hcond hd0 hth
            go_wp2_with (first
              | refine wpList_loadG LPX _ rfl rfl rfl ?_
              | (go_at_call 16; refine HT.out.mono ?_; rintro e w2 ⟨rfl, bt⟩; have HBT := Lib.hid bt; have LN2 := node_load (d := d) (HKX.out.below bt HKX.out.lt).range; have HBA := pl_bare d w2; rw [hbr] at HBA; replace HBA := Lib.hid HBA; clear bt hbr)
              | refine wpList_loadE LN2 _ rfl rfl rfl ?_
              | (go_at_call 61; refine HBA.out.mono ?_; rintro e w3 ⟨rfl, bt3⟩; have HB3 := Lib.hid (HBT.out.trans (bt3.mono HBT.out.size)); clear bt3))
            have HBN := Lib.hid (HBX.out.trans (HB3.out.mono HBX.out.size))
            go_roundw
            case rel => exact ⟨j + 1, by omega, by go_num, HQ, HBN⟩
            case measure => simp [intOf]; omega
          | false =>
            have HR : Hid (ringB ns = false) := hbad (by rw [hok, hcond, if_pos rfl, hbr])
            clear hok hbad hst hcond hd0 hth
            go_wp2_with (first
              | refine wpList_loadG LPX _ rfl rfl rfl ?_
              | (go_at_call 16; refine HT.out.mono ?_; rintro e w2 ⟨rfl, bt⟩; have HBT := Lib.hid bt; have LN2 := node_load (d := d) (HKX.out.below bt HKX.out.lt).range; have HBA := pl_bare d w2; rw [hbr] at HBA; replace HBA := Lib.hid HBA; clear bt hbr)
              | refine wpList_loadE LN2 _ rfl rfl rfl ?_
              | (go_at_call 61; refine HBA.out.mono ?_; rintro e w3 ⟨rfl, bt3⟩; have HB3 := Lib.hid (HBT.out.trans (bt3.mono HBT.out.size)); clear bt3))
            go_ret
            exact ⟨by rw [HR.out]; rfl, HB.out.trans ((HBX.out.trans (HB3.out.mono HBX.out.size)).mono HB.out.size)⟩
        | true =>
          rw [hth] at HT
          replace HT := Lib.hid HT
          have hcond : (decide (0 < j) && !thN ns j) = false := by rw [hd0, hth]; rfl
          clear hd0 hth
          go_upto_region 9 with (first
            | refine wpList_loadG LPX _ rfl rfl rfl ?_
            | (go_at_call 16; refine HT.out.mono ?_; rintro e w2 ⟨rfl, bt⟩; have HBT := Lib.hid bt; clear bt))
          cases p1 : placeB ns d.next with
          | false =>
            have HR : Hid (ringB ns = false) := hbad (by rw [hok, hcond, if_neg (by decide), p1]; rfl)
            skip
            have HP1 := pl_place (some ⟨b, o, none⟩) n c ns en tp d.next w.heap.size w2 (HGX.out.on (HBT.out) (HBT.out).size) (HCX.out.below (HBT.out) HCX.out.lt)
            rw [p1] at HP1
            replace HP1 := Lib.hid HP1
            have d5 : (w2).cell? ⟨wr.heap.size, 5, none⟩ = some (.int .i64 d.next) := (HKX.out.below (HBT.out) HKX.out.lt).cell 5
            have HBW := Lib.hid (HBX.out.trans ((HBT.out).mono HBX.out.size))
            clear p1 hok hbad hst
            go_wp2_with (go_at_call 62; refine HP1.out.mono ?_; rintro e w3 ⟨rfl, bt3⟩; have HB3 := Lib.hid (HBW.out.trans (bt3.mono HBW.out.size)); clear bt3)
            go_ret
            exact ⟨by rw [HR.out]; rfl, HB.out.trans (HB3.out.mono HB.out.size)⟩
          | true =>
            obtain ⟨nx, hnx, hnl⟩ := place_nat (by have := HL.out; omega) p1
            cases p2 : placeB ns d.prev with
            | false =>
              have HR : Hid (ringB ns = false) := hbad (by rw [hok, hcond, if_neg (by decide), p1, p2]; rfl)
              skip
              have HP1 := pl_place (some ⟨b, o, none⟩) n c ns en tp d.next w.heap.size w2 (HGX.out.on (HBT.out) (HBT.out).size) (HCX.out.below (HBT.out) HCX.out.lt)
              rw [p1] at HP1
              replace HP1 := Lib.hid HP1
              have d5 : (w2).cell? ⟨wr.heap.size, 5, none⟩ = some (.int .i64 d.next) := (HKX.out.below (HBT.out) HKX.out.lt).cell 5
              have HBW := Lib.hid (HBT.out)
              have P2 := Lib.hid p2
              clear p1 p2 hok hbad hst hnx
              go_wp2_with (first
                | ((with_reducible refine HP1.out.mono ?_); rintro e w3 ⟨rfl, bt3⟩; have HB3 := Lib.hid (HBW.out.trans (bt3.mono HBW.out.size)); have HP2 := pl_place (some ⟨b, o, none⟩) n c ns en tp d.prev w.heap.size w3 (HGX.out.on HB3.out HB3.out.size) (HCX.out.below HB3.out HCX.out.lt); rw [P2.out] at HP2; replace HP2 := Lib.hid HP2; have d6 : w3.cell? ⟨wr.heap.size, 6, none⟩ = some (.int .i64 d.prev) := (HKX.out.below HB3.out HKX.out.lt).cell 6; clear bt3)
                | ((with_reducible refine HP2.out.mono ?_); rintro e w4 ⟨rfl, bt4⟩; have HB4 := Lib.hid (HB3.out.trans (bt4.mono HB3.out.size)); clear bt4))
              go_ret
              exact ⟨by rw [HR.out]; rfl, HB.out.trans ((HBX.out.trans (HB4.out.mono HBX.out.size)).mono HB.out.size)⟩
            | true =>
              obtain ⟨pv, hpv⟩ : ∃ pv, (nAt ns nx).prev = pv := ⟨_, rfl⟩
              have HPV : Hid (∀ Y, Below X1.heap.size X1 Y → Y.cell? ⟨b, o + nx * 7 + 6, none⟩ = some (.int .i64 pv)) := by
                intro Y hY
                obtain ⟨b9, o9, e9, _, hc9⟩ := (HGX.out.on hY hY.size).prev (i := nx) (by have := HL.out; omega)
                injection e9 with e9
                injection e9 with e1 e2
                subst e1 e2
                rw [hc9, hpv]
              have hnxn : nx < n := by have := HL.out; omega
              skip
              have HP1 := pl_place (some ⟨b, o, none⟩) n c ns en tp d.next w.heap.size w2 (HGX.out.on (HBT.out) (HBT.out).size) (HCX.out.below (HBT.out) HCX.out.lt)
              rw [p1, hnx] at HP1
              replace HP1 := Lib.hid HP1
              have d5 : (w2).cell? ⟨wr.heap.size, 5, none⟩ = some (.int .i64 (nx : Int)) := by rw [← hnx]; exact (HKX.out.below (HBT.out) HKX.out.lt).cell 5
              have H5 : Hid (∀ Y, Below X1.heap.size X1 Y → Y.cell? ⟨wr.heap.size, 5, none⟩ = some (.int .i64 (nx : Int))) := fun Y hY => by rw [← hnx]; exact (HKX.out.below hY HKX.out.lt).cell 5
              have HBW := Lib.hid (HBT.out)
              have P2 := Lib.hid p2
              have hok2 : rOk ns j = (pv == (j : Int)) := by rw [hok, hcond, if_neg (by decide), p1, p2, hnx, Int.toNat_natCast, hpv]; rfl
              cases q : (pv == (j : Int)) with
              | false =>
                have HR : Hid (ringB ns = false) := hbad (by rw [hok2, q])
                have hne : (pv != (j : Int)) = true := by simp [bne, q]
                clear p1 p2 hok hbad hst hnx hok2 q hpv
                go_wp2_with (first
                  | ((with_reducible refine HP1.out.mono ?_); rintro e w3 ⟨rfl, bt3⟩; have HB3 := Lib.hid (HBW.out.trans (bt3.mono HBW.out.size)); have HP2 := pl_place (some ⟨b, o, none⟩) n c ns en tp d.prev w.heap.size w3 (HGX.out.on HB3.out HB3.out.size) (HCX.out.below HB3.out HCX.out.lt); rw [P2.out] at HP2; replace HP2 := Lib.hid HP2; have d6 : w3.cell? ⟨wr.heap.size, 6, none⟩ = some (.int .i64 d.prev) := (HKX.out.below HB3.out HKX.out.lt).cell 6; clear bt3)
                  | ((with_reducible refine HP2.out.mono ?_); rintro e w4 ⟨rfl, bt4⟩; have HB4 := Lib.hid (HB3.out.trans (bt4.mono HB3.out.size)); have x5 := H5.out w4 HB4.out; have x6 := HPV.out w4 HB4.out; have x0 := HC0.out w4 HB4.out; clear bt4))
                go_ret
                exact ⟨by rw [HR.out]; rfl, HB.out.trans ((HBX.out.trans (HB4.out.mono HBX.out.size)).mono HB.out.size)⟩
              | true =>
                have HQ := hst (by rw [hok2, q])
                have hne : (pv != (j : Int)) = false := by simp [bne, q]
                clear p1 p2 hok hbad hst hnx hok2 q hpv
                go_wp2_with (first
                  | ((with_reducible refine HP1.out.mono ?_); rintro e w3 ⟨rfl, bt3⟩; have HB3 := Lib.hid (HBW.out.trans (bt3.mono HBW.out.size)); have HP2 := pl_place (some ⟨b, o, none⟩) n c ns en tp d.prev w.heap.size w3 (HGX.out.on HB3.out HB3.out.size) (HCX.out.below HB3.out HCX.out.lt); rw [P2.out] at HP2; replace HP2 := Lib.hid HP2; have d6 : w3.cell? ⟨wr.heap.size, 6, none⟩ = some (.int .i64 d.prev) := (HKX.out.below HB3.out HKX.out.lt).cell 6; clear bt3)
                  | ((with_reducible refine HP2.out.mono ?_); rintro e w4 ⟨rfl, bt4⟩; have HB4 := Lib.hid (HB3.out.trans (bt4.mono HB3.out.size)); have x5 := H5.out w4 HB4.out; have x6 := HPV.out w4 HB4.out; have x0 := HC0.out w4 HB4.out; clear bt4))
                have HBN := Lib.hid (HBX.out.trans (HB4.out.mono HBX.out.size))
                go_roundw
                case rel => exact ⟨j + 1, by omega, by go_num, HQ, HBN⟩
                case measure => simp [intOf]; omega
      · have hcond : (decide (0 < j) && !thN ns j) = false := by rw [decide_eq_false h0]; rfl
        have bXX := Lib.hid (Below.refl X1.heap.size X1)
        clear HT
        go_upto_region 9 with fail
        cases p1 : placeB ns d.next with
        | false =>
          have HR : Hid (ringB ns = false) := hbad (by rw [hok, hcond, if_neg (by decide), p1]; rfl)
          skip
          have HP1 := pl_place (some ⟨b, o, none⟩) n c ns en tp d.next w.heap.size X1 (HGX.out.on (bXX.out) (bXX.out).size) (HCX.out.below (bXX.out) HCX.out.lt)
          rw [p1] at HP1
          replace HP1 := Lib.hid HP1
          have d5 : (X1).cell? ⟨wr.heap.size, 5, none⟩ = some (.int .i64 d.next) := (HKX.out.below (bXX.out) HKX.out.lt).cell 5
          have HBW := Lib.hid (HBX.out.trans ((bXX.out).mono HBX.out.size))
          clear p1 hok hbad hst
          go_wp2_with (go_at_call 62; refine HP1.out.mono ?_; rintro e w3 ⟨rfl, bt3⟩; have HB3 := Lib.hid (HBW.out.trans (bt3.mono HBW.out.size)); clear bt3)
          go_ret
          exact ⟨by rw [HR.out]; rfl, HB.out.trans (HB3.out.mono HB.out.size)⟩
        | true =>
          obtain ⟨nx, hnx, hnl⟩ := place_nat (by have := HL.out; omega) p1
          cases p2 : placeB ns d.prev with
          | false =>
            have HR : Hid (ringB ns = false) := hbad (by rw [hok, hcond, if_neg (by decide), p1, p2]; rfl)
            skip
            have HP1 := pl_place (some ⟨b, o, none⟩) n c ns en tp d.next w.heap.size X1 (HGX.out.on (bXX.out) (bXX.out).size) (HCX.out.below (bXX.out) HCX.out.lt)
            rw [p1] at HP1
            replace HP1 := Lib.hid HP1
            have d5 : (X1).cell? ⟨wr.heap.size, 5, none⟩ = some (.int .i64 d.next) := (HKX.out.below (bXX.out) HKX.out.lt).cell 5
            have HBW := Lib.hid (bXX.out)
            have P2 := Lib.hid p2
            clear p1 p2 hok hbad hst hnx
            go_wp2_with (first
              | ((with_reducible refine HP1.out.mono ?_); rintro e w3 ⟨rfl, bt3⟩; have HB3 := Lib.hid (HBW.out.trans (bt3.mono HBW.out.size)); have HP2 := pl_place (some ⟨b, o, none⟩) n c ns en tp d.prev w.heap.size w3 (HGX.out.on HB3.out HB3.out.size) (HCX.out.below HB3.out HCX.out.lt); rw [P2.out] at HP2; replace HP2 := Lib.hid HP2; have d6 : w3.cell? ⟨wr.heap.size, 6, none⟩ = some (.int .i64 d.prev) := (HKX.out.below HB3.out HKX.out.lt).cell 6; clear bt3)
              | ((with_reducible refine HP2.out.mono ?_); rintro e w4 ⟨rfl, bt4⟩; have HB4 := Lib.hid (HB3.out.trans (bt4.mono HB3.out.size)); clear bt4))
            go_ret
            exact ⟨by rw [HR.out]; rfl, HB.out.trans ((HBX.out.trans (HB4.out.mono HBX.out.size)).mono HB.out.size)⟩
          | true =>
            obtain ⟨pv, hpv⟩ : ∃ pv, (nAt ns nx).prev = pv := ⟨_, rfl⟩
            have HPV : Hid (∀ Y, Below X1.heap.size X1 Y → Y.cell? ⟨b, o + nx * 7 + 6, none⟩ = some (.int .i64 pv)) := by
              intro Y hY
              obtain ⟨b9, o9, e9, _, hc9⟩ := (HGX.out.on hY hY.size).prev (i := nx) (by have := HL.out; omega)
              injection e9 with e9
              injection e9 with e1 e2
              subst e1 e2
              rw [hc9, hpv]
            have hnxn : nx < n := by have := HL.out; omega
            skip
            have HP1 := pl_place (some ⟨b, o, none⟩) n c ns en tp d.next w.heap.size X1 (HGX.out.on (bXX.out) (bXX.out).size) (HCX.out.below (bXX.out) HCX.out.lt)
            rw [p1, hnx] at HP1
            replace HP1 := Lib.hid HP1
            have d5 : (X1).cell? ⟨wr.heap.size, 5, none⟩ = some (.int .i64 (nx : Int)) := by rw [← hnx]; exact (HKX.out.below (bXX.out) HKX.out.lt).cell 5
            have H5 : Hid (∀ Y, Below X1.heap.size X1 Y → Y.cell? ⟨wr.heap.size, 5, none⟩ = some (.int .i64 (nx : Int))) := fun Y hY => by rw [← hnx]; exact (HKX.out.below hY HKX.out.lt).cell 5
            have HBW := Lib.hid (bXX.out)
            have P2 := Lib.hid p2
            have hok2 : rOk ns j = (pv == (j : Int)) := by rw [hok, hcond, if_neg (by decide), p1, p2, hnx, Int.toNat_natCast, hpv]; rfl
            cases q : (pv == (j : Int)) with
            | false =>
              have HR : Hid (ringB ns = false) := hbad (by rw [hok2, q])
              have hne : (pv != (j : Int)) = true := by simp [bne, q]
              clear p1 p2 hok hbad hst hnx hok2 q hpv
              go_wp2_with (first
                | ((with_reducible refine HP1.out.mono ?_); rintro e w3 ⟨rfl, bt3⟩; have HB3 := Lib.hid (HBW.out.trans (bt3.mono HBW.out.size)); have HP2 := pl_place (some ⟨b, o, none⟩) n c ns en tp d.prev w.heap.size w3 (HGX.out.on HB3.out HB3.out.size) (HCX.out.below HB3.out HCX.out.lt); rw [P2.out] at HP2; replace HP2 := Lib.hid HP2; have d6 : w3.cell? ⟨wr.heap.size, 6, none⟩ = some (.int .i64 d.prev) := (HKX.out.below HB3.out HKX.out.lt).cell 6; clear bt3)
                | ((with_reducible refine HP2.out.mono ?_); rintro e w4 ⟨rfl, bt4⟩; have HB4 := Lib.hid (HB3.out.trans (bt4.mono HB3.out.size)); have x5 := H5.out w4 HB4.out; have x6 := HPV.out w4 HB4.out; have x0 := HC0.out w4 HB4.out; clear bt4))
              go_ret
              exact ⟨by rw [HR.out]; rfl, HB.out.trans ((HBX.out.trans (HB4.out.mono HBX.out.size)).mono HB.out.size)⟩
            | true =>
              have HQ := hst (by rw [hok2, q])
              have hne : (pv != (j : Int)) = false := by simp [bne, q]
              clear p1 p2 hok hbad hst hnx hok2 q hpv
              go_wp2_with (first
                | ((with_reducible refine HP1.out.mono ?_); rintro e w3 ⟨rfl, bt3⟩; have HB3 := Lib.hid (HBW.out.trans (bt3.mono HBW.out.size)); have HP2 := pl_place (some ⟨b, o, none⟩) n c ns en tp d.prev w.heap.size w3 (HGX.out.on HB3.out HB3.out.size) (HCX.out.below HB3.out HCX.out.lt); rw [P2.out] at HP2; replace HP2 := Lib.hid HP2; have d6 : w3.cell? ⟨wr.heap.size, 6, none⟩ = some (.int .i64 d.prev) := (HKX.out.below HB3.out HKX.out.lt).cell 6; clear bt3)
                | ((with_reducible refine HP2.out.mono ?_); rintro e w4 ⟨rfl, bt4⟩; have HB4 := Lib.hid (HB3.out.trans (bt4.mono HB3.out.size)); have x5 := H5.out w4 HB4.out; have x6 := HPV.out w4 HB4.out; have x0 := HC0.out w4 HB4.out; clear bt4))
              have HBN := Lib.hid (HBX.out.trans (HB4.out.mono HBX.out.size))
              go_roundw
              case rel => exact ⟨j + 1, by omega, by go_num, HQ, HBN⟩
              case measure => simp [intOf]; omega
    · obtain rfl : n = j := by omega
      have hv := ringB_all (ns := ns) (fun k hk => hq.out k (by have := HL.out; omega))
      have bR : Below w1.heap.size w1 wr := hb'.out
      have KR := HC.out.below bR hbl.out
      have GR := HG.out.on bR bR.size
      have HKR := Lib.hid KR
      have HGR := Lib.hid GR
      have HBR := Lib.hid (HB.out.trans (bR.mono HB.out.size))
      have HV := Lib.hid hv
      clear hv bR KR GR hq hb'
      go_wp2_with fail
      refine wp_region_held_drew (S := fun w' => Below wr.heap.size wr w') (by kernel_rfl) (below_drewN (Below.refl _ wr) 1) (fun hH => ?_)
      refine wpAnyH_take (i := 0) (v := .agg (pgL A n c en tp)) rfl (by kernel_rfl) (by kernel_rfl) (by kernel_rfl) (fun _ _ _ h => h) (yieldsIf_loadP (by rfl) _ rfl rfl (fun _ q => plane_load (HKR.out.below q HKR.out.lt))) hH ?_
      (try simp only [List.getElem_toArray, List.getElem_cons_zero, Act.put, List.setIfInBounds_toArray, List.set_cons_zero, List.set_cons_succ])
      refine wpAnyH_take (i := 3) (v := .agg (pgL A n c en tp)) rfl (by kernel_rfl) (by kernel_rfl) (by kernel_rfl) (fun _ _ _ h => h) (yieldsIf_loadP (by rfl) _ rfl rfl (fun _ q => plane_load (HKR.out.below q HKR.out.lt))) hH ?_
      (try simp only [List.getElem_toArray, List.getElem_cons_zero, List.getElem_cons_succ, Act.put, List.setIfInBounds_toArray, List.set_cons_zero, List.set_cons_succ])
      refine wpAnyH_call 1 63 #[.agg (pgL A n c en tp)] _ (by kernel_rfl) (by rfl) (by kernel_rfl) (by kernel_rfl) (pl_ring A n c ns en tp _ (HGR.out.on hH hH.size)) ?_
      rintro e Z1 ⟨A1, n1, c1, rfl, o1, bz⟩
      have hH1 : Below wr.heap.size wr Z1 := hH.trans (bz.mono hH.size)
      have l1 := Lib.hid o1.len
      clear bz o1
      refine ⟨_, rfl, hH1, ?_⟩
      clear hH
      (try simp only [List.getElem_toArray, List.getElem_cons_zero, List.getElem_cons_succ, Act.put, List.setIfInBounds_toArray, List.set_cons_zero, List.set_cons_succ])
      refine wpAnyH_take (i := 2) (v := .int .i64 n1) rfl (by kernel_rfl) (by kernel_rfl) (by kernel_rfl) (fun _ _ _ h => h) (.inl ⟨by rfl, fun _ _ => by kernel_rfl⟩) hH1 ?_
      (try simp only [List.getElem_toArray, List.getElem_cons_zero, List.getElem_cons_succ, Act.put, List.setIfInBounds_toArray, List.set_cons_zero, List.set_cons_succ])
      refine wpAnyH_call 4 36 #[.agg (pgL A n c en tp)] _ (by kernel_rfl) (by rfl) (by kernel_rfl) (by kernel_rfl) (pl_live A n c ns en tp _ (HGR.out.on hH1 hH1.size)) ?_
      rintro e Z2 ⟨A2, n2, c2, rfl, o2, bz⟩
      have hH2 : Below wr.heap.size wr Z2 := hH1.trans (bz.mono hH1.size)
      have l2 := Lib.hid o2.len
      clear bz o2 hH1
      refine ⟨_, rfl, hH2, ?_⟩
      (try simp only [List.getElem_toArray, List.getElem_cons_zero, List.getElem_cons_succ, Act.put, List.setIfInBounds_toArray, List.set_cons_zero, List.set_cons_succ])
      refine wpAnyH_take (i := 5) (v := .int .i64 n2) rfl (by kernel_rfl) (by kernel_rfl) (by kernel_rfl) (fun _ _ _ h => h) (.inl ⟨by rfl, fun _ _ => by kernel_rfl⟩) hH2 ?_
      (try simp only [List.getElem_toArray, List.getElem_cons_zero, List.getElem_cons_succ, Act.put, List.setIfInBounds_toArray, List.set_cons_zero, List.set_cons_succ])
      refine wpAnyH_take (i := 6) rfl (by kernel_rfl) (by kernel_rfl) (by kernel_rfl) (fun _ _ _ h => h) (yieldsIf_eqlI (by rfl) _ _ rfl rfl rfl) hH2 ?_
      (try simp only [List.getElem_toArray, List.getElem_cons_zero, List.getElem_cons_succ, Act.put, List.setIfInBounds_toArray, List.set_cons_zero, List.set_cons_succ])
      refine wpAnyH_take (i := 7) (v := .bool ((n1 : Int) == (n2 : Int))) rfl (by kernel_rfl) (by kernel_rfl) (by kernel_rfl) (fun _ _ _ h => h) (.inl ⟨by rfl, fun _ _ => by kernel_rfl⟩) hH2 ?_
      (try simp only [List.getElem_toArray, List.getElem_cons_zero, List.getElem_cons_succ, Act.put, List.setIfInBounds_toArray, List.set_cons_zero, List.set_cons_succ])
      refine wpAnyH_done (by kernel_rfl) ?_ _
      have HRR : Hid (ringB ns = ((n1 : Int) == (n2 : Int))) := by show _ = _; rw [HV.out, l1.out, l2.out]
      have HBB := Lib.hid (HBR.out.trans (hH2.mono HBR.out.size))
      obtain ⟨rb, hrb⟩ : ∃ rb, ((n1 : Int) == (n2 : Int)) = rb := ⟨_, rfl⟩
      rw [hrb] at HRR ⊢
      clear hrb hH2 HV l1 l2
      go_wp2_with fail
      go_ret
      exact ⟨by rw [HRR.out]; rfl, HBB.out⟩
end Go.Proofs.Ytbpcddimnbjoeaa
