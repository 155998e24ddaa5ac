/- A text read by the document. -/
import Derived.Test.YtokgcjhlmohjgaaDoorTagQ
namespace Go.Proofs.YtokgcjhlmohjgaaDoor
open Go.RowKit
theorem bit_one (m j : Nat) (hm : m < 18446744073709551616) : (bits .and .u64 ((m : Int) / 2 ^ j) 1 == 1) = m.testBit j := by
  rw [show (m : Int) / 2 ^ j = ((m / 2 ^ j : Nat) : Int) by simp, show (1 : Int) = ((1 : Nat) : Int) by rfl, u64_and_nat _ _ (Nat.lt_of_le_of_lt (Nat.div_le_self _ _) hm) (by decide), Nat.and_one_is_mod, Nat.testBit_eq_decide_div_mod_eq]
  rcases Nat.mod_two_eq_zero_or_one (m / 2 ^ j) with h | h <;> rw [h] <;> rfl
theorem shl_one {y : Nat} (hy : y < 64) : IntKind.u64.wrap (2 ^ y) = ((2 ^ y : Nat) : Int) := by
  have h2 : 2 ^ y < 18446744073709551616 := Nat.pow_lt_pow_right (a := 2) (by decide) hy
  rw [show (2 ^ y : Int) = ((2 ^ y : Nat) : Int) by simp, wrap_nat, Nat.mod_eq_of_lt h2]
set_option maxRecDepth 100000 in
set_option maxHeartbeats 4000000 in
theorem ref_parse (A : Option Addr) (n c : Nat) (ts : List (List Int)) (hall : ∀ t ∈ ts, Bytes t) (hsz : ∀ t ∈ ts, t.length ≤ 9223372036854775807) (s : List Int) (hs : Bytes s) (hsl : s.length ≤ 4194304) (w : World) (hr : Rd w w.heap.size A n (ts.map fun t => .string (strOfNums t))) :
    Calls Tryd.prog 12 #[.slice A n c, .string (strOfNums s)] w fun e w' => e = .returned (.tuple #[.int .u64 (prsM ts s), .int .i64 (prsW ts s)]) ∧ Below w.heap.size w w' := by
  have hml : ts.length = n := by simpa using hr.1
  have hC := Lib.hid (ref_check A n c ts hall hsz w hr)
  have HR := Lib.hid hr
  have HL := Lib.hid hml
  have HA := Lib.hid hall
  obtain ⟨z, hz⟩ : ∃ z, chkE ts = z := ⟨_, rfl⟩
  rw [hz] at hC
  clear hr hml hall hsz
  by_cases h0 : z = 0
  · subst h0
    have hn64 : n ≤ 64 := by have := (chk_zero hz).1; have := HL.out; omega
    have HZ := Lib.hid hz
    have hP := Lib.hid (ref_parts s hs hsl w)
    have HB := Lib.hid (bytes_parts hs)
    have HAT := Lib.hid (fun k hk => ats_at (ts := ts) (s := s) (k := k) hk)
    have HAL : Hid ((atsE ts s).length = (partsE s).length) := ats_len ts s
    have hLL : (partsE s).length ≤ 4194305 := by have := len_parts s; omega
    obtain ⟨l, hl⟩ : ∃ l, partsE s = l := ⟨_, rfl⟩
    rw [hl] at hP HB HAT HAL hLL
    obtain ⟨L, hL⟩ : ∃ L, l.length = L := ⟨_, rfl⟩
    rw [hL] at HAL hLL
    have HLL := Lib.hid hL
    clear hz hs hsl hl
    go_enter Tryd.func12, Tryd.ntmps12
    go_wp2_with fail
    refine hC.out.mono ?_
    rintro e w1 ⟨rfl, rfl⟩
    clear hC
    go_wp2_with fail
    refine hP.out.mono ?_
    rintro e w2 ⟨⟨Ap, cp, rfl, hcp, hrp⟩, hb2⟩
    rw [hL] at hrp ⊢
    have HB2 := Lib.hid hb2
    have HRP := Lib.hid hrp
    clear hb2 hrp hcp hP hL
    go_wp2_with fail
    go_loopw [9, 25] (fun v i wr => ∃ (j : Nat) (B : Option Addr) (d : Nat), j ≤ L ∧ i = .int .i64 j ∧ v = .slice B j d ∧ Hid (wr.ownsRow w2.heap.size 3 1 (.slice B j d) j (((atsE ts s).take j).map (.int .i64))) ∧ Hid (Below w2.heap.size w2 wr) ∧ Hid (∀ q, q < j → 0 ≤ ig (atsE ts s) q)) (fun _ i _ => L - (intOf i).toNat)
    case atStart => exact ⟨0, none, 0, Nat.zero_le _, rfl, rfl, World.ownsRow_nil _ _ _ _, Below.refl _ _, (show ∀ q, q < 0 → _ from fun q hq => absurd hq (by omega))⟩
    case round =>
      obtain ⟨j, B, d, hj, rfl, rfl, hown, hb, hlo⟩ := hrel
      have hown' := hown.out
      have hszz := hb.out.size
      by_cases hlt : j < L
      · have hjl : j < l.length := by have := HLL.out; omega
        have hja : j < (atsE ts s).length := by have := HAL.out; omega
        obtain ⟨b, o, rfl, hbl, hc1⟩ := (HRP.out.below hb.out).atS hlt
        have hF := Lib.hid (ref_find A n c ts HA.out (tg l j) (HB.out _ (tg_mem hjl)) wr ((HR.out.below (HB2.out.trans (hb.out.mono HB2.out.size))).more (HB2.out.trans (hb.out.mono HB2.out.size)).size) (by omega))
        have hat := HAT.out j hjl
        have hbd := fi_bd ts (tg l j)
        obtain ⟨y, hy⟩ : ∃ y, fiE ts (tg l j) = y := ⟨_, rfl⟩
        rw [hy] at hF hat hbd
        by_cases hneg : y < 0
        · have HE := Lib.hid (prs_miss HZ.out hja (by rw [hat]; exact hneg))
          clear hat hbd hy hjl hja hbl hown' hszz
          go_wp2_with fail
          refine hF.out.mono ?_
          rintro e w3 ⟨rfl, rfl⟩
          go_wp2_with fail
          refine bodyPost_ret (v := .tuple #[.int .u64 0, .int .i64 3]) (by simp [results, Tryd.results12, go_sem]) rfl ?_
          rw [HE.out.1, HE.out.2]
          exact ⟨rfl, HB2.out.trans (hb.out.mono HB2.out.size)⟩
        · have hlo2 : Hid (∀ q, q < j + 1 → 0 ≤ ig (atsE ts s) q) := fun q hq => by
            by_cases e : q = j
            · rw [e, hat]; omega
            · exact hlo.out q (by omega)
          have htk : Hid (((atsE ts s).take (j + 1)).map (Value.int .i64) = ((atsE ts s).take j ++ [y]).map (Value.int .i64)) := by show _ = _; rw [take_step hja, hat]
          clear hat hbd hy hjl hja hbl
          go_wp2_with fail
          refine hF.out.mono ?_
          rintro e w3 ⟨rfl, rfl⟩
          go_wp2_with (at_builtin; refine wpList_push rfl (.tmp 34) (.tmp 36) _ rfl w2.heap.size 3 .i64 8 (by decide) Tryd.underlying36 info_int wr B j d _ _ rfl hown' rfl (by omega) hszz ?_; intro g' c' w' hown2 hb2)
          have HBB := Lib.hid (hb.out.trans hb2)
          have HO2 := Lib.hid hown2
          go_roundw
          case rel => exact ⟨j + 1, _, c', hlt, by go_num, rfl, (by show World.ownsRow _ _ _ _ _ _ _; rw [htk.out]; exact HO2.out), HBB, hlo2⟩
          case measure => simp [intOf]; omega
      · obtain rfl : j = L := by omega
        have hal := HAL.out
        have hl2 : (atsE ts s).take j = atsE ts s := List.take_of_length_le (by omega)
        rw [hl2] at hown'
        have hrd := Lib.hid (Rd.of_own hown')
        have HPl : Hid (Pl (atsE ts s)) := fun i hi => by
          obtain ⟨k, hk, rfl⟩ := List.getElem_of_mem hi
          have e : (atsE ts s)[k] = ig (atsE ts s) k := by simp [ig, List.getD_eq_getElem?_getD, hk]
          rw [e]
          have h1 := hlo.out k (by omega)
          have h2 := HAT.out k (by have := HLL.out; omega)
          have h3 := (fi_bd ts (tg l k)).1
          have := HL.out
          exact ⟨h1, by omega⟩
        obtain ⟨at_, hat⟩ : ∃ x, atsE ts s = x := ⟨_, rfl⟩
        rw [hat] at hrd HPl hlo HAL
        have HAE := Lib.hid hat
        have HLO : Hid (∀ k, k < (atsE ts s).length → 0 ≤ ig (atsE ts s) k) := fun k hk => by rw [hat]; rw [hat] at hk; exact hlo.out k (by have := HAL.out; omega)
        clear hown' hl2 hszz hal hat HAT hown
        go_wp2_with fail
        go_loopw [7, 41] (fun v i w' => ∃ (k : Nat), k ≤ j ∧ i = .int .i64 k ∧ v = .int .u64 (mOf (at_.take k)) ∧ wr = w' ∧ Hid ((at_.take k).Nodup)) (fun _ i _ => j - (intOf i).toNat)
        case atStart => exact ⟨0, Nat.zero_le _, rfl, rfl, rfl, (show (at_.take 0).Nodup by simp)⟩
        case round =>
          obtain ⟨k, hk, rfl, rfl, rfl, hnd⟩ := hrel
          by_cases hlt : k < j
          · have hka : k < at_.length := by have := HAL.out; omega
            obtain ⟨b, o, rfl, hbl, hc1⟩ := hrd.out.atI hlt
            have hpl := HPl.out _ (ig_mem2 hka)
            obtain ⟨y, hy⟩ : ∃ y : Nat, ig at_ k = y := Int.eq_ofNat_of_zero_le hpl.1
            rw [hy] at hc1 hpl
            have hy64 : y < 64 := by omega
            have hsn := mOf_snoc (at_.take k) (ig at_ k)
            rw [← take_step hka, hy, Int.toNat_natCast] at hsn
            have hmem := mOf_mem (HPl.out.take k) (y := y)
            have hmlt := mOf_lt (HPl.out.take k)
            have hnd2 := nodup_snoc hka
            rw [hy] at hnd2
            obtain ⟨x, hx⟩ : ∃ x, mOf (at_.take k) = x := ⟨_, rfl⟩
            rw [hx] at hsn hmem hmlt
            have HX := bit_one x y hmlt
            rw [hx]
            by_cases hd : (y : Int) ∈ at_.take k
            · rw [decide_eq_true hd] at hmem
              rw [hmem] at HX
              have HE := Lib.hid (prs_twice HZ.out HLO.out (by
                rw [HAE.out]
                intro q
                exact (hnd2.1 (q.sublist (List.take_sublist _ _))).2 hd))
              clear hmem hd hnd2 hsn hx hy hpl hka hbl
              go_wp2_with fail
              refine bodyPost_ret (v := .tuple #[.int .u64 0, .int .i64 10]) (by simp [results, Tryd.results12, go_sem]) rfl ?_
              rw [HE.out.1, HE.out.2]
              exact ⟨rfl, HB2.out.trans (hb.out.mono HB2.out.size)⟩
            · rw [decide_eq_false hd] at hmem
              rw [hmem] at HX
              have HS : Hid ((at_.take (k + 1)).Nodup) := hnd2.2 ⟨hnd.out, hd⟩
              have hor : IntKind.u64.wrap ((x : Int) + IntKind.u64.wrap (2 ^ y)) = ((x ||| 2 ^ y : Nat) : Int) := by
                rw [shl_one hy64, show ((x : Int) + ((2 ^ y : Nat) : Int)) = ((x + 2 ^ y : Nat) : Int) by simp, wrap_nat, or_add x y hmem, Nat.mod_eq_of_lt (or_bit x y hmlt hy64)]
              rw [← hsn] at hor
              have HO := Lib.hid hor
              clear hmem hd hnd2 hsn hx hy hpl hka hbl hor
              go_wp2_with fail
              go_roundw
              case rel => exact ⟨k + 1, hlt, by go_num, by rw [HO.out], by trivial, HS⟩
              case measure => simp [intOf]; omega
          · obtain rfl : k = j := by omega
            have hal := HAL.out
            have hl2 : at_.take k = at_ := List.take_of_length_le (by omega)
            rw [hl2] at hnd ⊢
            obtain ⟨x, hx⟩ : ∃ x, mOf at_ = x := ⟨_, rfl⟩
            rw [hx]
            have HXX := Lib.hid hx
            clear hl2 hal hx
            go_wp2_with fail
            go_loopw [59] (fun i w' => ∃ (q : Nat), q ≤ k ∧ i = .int .i64 q ∧ (∃ r, w' = wr.drewN r) ∧ Hid (∀ p, p + 1 < q → ig at_ p ≤ ig at_ (p + 1))) (fun i _ => k - (intOf i).toNat)
            case atStart => exact ⟨0, Nat.zero_le _, rfl, ⟨0, rfl⟩, (show ∀ p, p + 1 < 0 → _ from fun p hp => absurd hp (by omega))⟩
            case round =>
              obtain ⟨q, hq, rfl, ⟨r, rfl⟩, hso⟩ := hrel
              by_cases hlt : q < k
              · cases q with
                | zero =>
                  have HS : Hid (∀ p, p + 1 < 0 + 1 → ig at_ p ≤ ig at_ (p + 1)) := fun p hp => absurd hp (by omega)
                  go_wp2
                  go_quiet (fail)
                  go_wp2
                  go_roundw
                  case rel => exact ⟨0 + 1, hlt, by go_num, ⟨_, rfl⟩, HS⟩
                  case measure => simp [intOf]; omega
                | succ q =>
                  obtain ⟨b, o, rfl, hbl, hc1⟩ := hrd.out.atI hlt
                  have hc0 : wr.cell? ⟨b, o + q, none⟩ = some (.int .i64 (ig at_ q)) := by
                    obtain ⟨b', o', e, _, h⟩ := hrd.out.atI (k := q) (by omega)
                    cases e
                    exact h
                  obtain ⟨u, hu⟩ : ∃ u, ig at_ q = u := ⟨_, rfl⟩
                  obtain ⟨v, hv⟩ : ∃ v, ig at_ (q + 1) = v := ⟨_, rfl⟩
                  rw [hu] at hc0
                  rw [hv] at hc1
                  by_cases hgt : u > v
                  · have tg1 : decide (u > v) = true := by simp; omega
                    have tg2 : decide (v < u) = true := by simp; omega
                    have HE := Lib.hid (prs_order HZ.out HLO.out (by rw [HAE.out]; exact hnd.out) (by
                      rw [HAE.out, Bool.eq_false_iff]
                      intro e
                      have := srt_iff.1 e q (by have := HAL.out; omega)
                      omega))
                    clear hu hv hgt hbl
                    go_wp2
                    go_quiet (fail)
                    go_wp2
                    refine bodyPost_ret (v := .tuple #[.int .u64 0, .int .i64 11]) (by simp [results, Tryd.results12, go_sem]) rfl ?_
                    rw [HE.out.1, HE.out.2]
                    exact ⟨rfl, below_drewN (below_drewN (HB2.out.trans (hb.out.mono HB2.out.size)) _) _⟩
                  · have tg1 : decide (u > v) = false := by simp; omega
                    have tg2 : decide (v < u) = false := by simp; omega
                    have HS : Hid (∀ p, p + 1 < q + 1 + 1 → ig at_ p ≤ ig at_ (p + 1)) := fun p hp => by
                      by_cases e : p = q
                      · rw [e]; omega
                      · exact hso.out p (by omega)
                    clear hu hv hgt hbl
                    go_wp2
                    go_quiet (fail)
                    go_wp2
                    go_roundw
                    case rel => exact ⟨q + 1 + 1, hlt, by go_num, ⟨_, rfl⟩, HS⟩
                    case measure => simp [intOf]; omega
              · obtain rfl : q = k := by omega
                have HE := Lib.hid (prs_ok HZ.out HLO.out (by rw [HAE.out]; exact hnd.out) (by
                  rw [HAE.out]
                  exact srt_iff.2 fun p hp => hso.out p (by have := HAL.out; omega)))
                go_wp2
                refine bodyPost_ret (v := .tuple #[.int .u64 x, .int .i64 0]) (by simp [results, Tryd.results12, go_sem]) rfl ?_
                rw [HE.out.1, HE.out.2, HAE.out, HXX.out]
                exact ⟨rfl, below_drewN (HB2.out.trans (hb.out.mono HB2.out.size)) _⟩
  · have t0 : (z != 0) = true := bne_iff_ne.2 h0
    have HE := Lib.hid (prs_chk (ts := ts) (s := s) (by rw [hz]; exact h0))
    have HZ := Lib.hid hz
    clear hz h0 hs hsl
    go_enter Tryd.func12, Tryd.ntmps12
    go_wp2_with fail
    refine hC.out.mono ?_
    rintro e w1 ⟨rfl, rfl⟩
    clear hC
    go_wp2_with fail
    refine bodyPost_ret (v := .tuple #[.int .u64 0, .int .i64 z]) (by simp [results, Tryd.results12, go_sem]) rfl ?_
    rw [HE.out.1, HE.out.2, HZ.out]
    exact ⟨rfl, Below.refl _ _⟩
end Go.Proofs.YtokgcjhlmohjgaaDoor
