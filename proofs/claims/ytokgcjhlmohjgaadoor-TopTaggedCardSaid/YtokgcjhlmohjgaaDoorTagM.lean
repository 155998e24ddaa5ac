/- Names of a mask's bits by the document; whether two lists of texts are one. -/
import Derived.Test.YtokgcjhlmohjgaaDoorTagN
namespace Go.Proofs.YtokgcjhlmohjgaaDoor
open Go.RowKit
set_option maxRecDepth 100000 in
set_option maxHeartbeats 2000000 in
theorem ref_names (A : Option Addr) (n c : Nat) (ts : List (List Int)) (hall : ∀ t ∈ ts, Bytes t) (hsz : ∀ t ∈ ts, t.length ≤ 9223372036854775807) (m : Nat) (hm : m < 18446744073709551616) (w : World) (hr : Rd w w.heap.size A n (ts.map fun t => .string (strOfNums t))) :
    Calls Tryd.prog 8 #[.slice A n c, .int .u64 m] w (RetS (nmL ts m) (nmW ts m) w) := by
  have hml : ts.length = n := by simpa using hr.1
  have hC := Lib.hid (ref_check A n c ts hall hsz w hr)
  have HR := Lib.hid hr
  have HL := Lib.hid hml
  have HM := Lib.hid hm
  obtain ⟨z, hz⟩ : ∃ z, chkE ts = z := ⟨_, rfl⟩
  rw [hz] at hC
  clear hr hml hm hall hsz
  by_cases h0 : z = 0
  · subst h0
    have hn64 : n ≤ 64 := by have := (chk_zero hz).1; have := HL.out; omega
    have HZ := Lib.hid hz
    clear hz
    go_enter Tryd.func8, Tryd.ntmps8
    go_wp2_with fail
    refine hC.out.mono ?_
    rintro e w1 ⟨rfl, rfl⟩
    have hbits := Lib.hid (ref_bits m HM.out w)
    clear hC
    go_wp2_with fail
    refine hbits.out.mono ?_
    rintro e w2 ⟨⟨Ab, cb, rfl, hcb, hrb⟩, hb2⟩
    have HB2 := Lib.hid hb2
    have HRB := Lib.hid hrb
    obtain ⟨L, hL⟩ : ∃ L, (mb m).length = L := ⟨_, rfl⟩
    rw [hL] at HRB
    have HLL := Lib.hid hL
    have hL64 : L ≤ 64 := by rw [← hL]; exact mb_len m
    rw [hL]
    clear hb2 hrb hcb hbits hL
    go_wp2_with fail
    go_loopw [7, 18] (fun v i wr => ∃ (j : Nat) (B : Option Addr) (d : Nat), j ≤ L ∧ i = .int .i64 j ∧ v = .slice B j d ∧ Hid (wr.ownsRow w2.heap.size 9 1 (.slice B j d) j (((nmE ts m).take j).map sv)) ∧ Hid (Below w2.heap.size w2 wr) ∧ Hid (∀ q, q < j → ig (mb m) q < n)) (fun _ i _ => L - (intOf i).toNat)
    case atStart => exact ⟨0, none, 0, Nat.zero_le _, rfl, rfl, World.ownsRow_nil _ _ _ _, Below.refl _ _, (show ∀ q, q < 0 → _ from fun q hq => absurd hq (by omega))⟩
    case round =>
      obtain ⟨j, B, d, hj, rfl, rfl, hown, hb, hlo⟩ := hrel
      have hown' := hown.out
      have hszz := hb.out.size
      by_cases hlt : j < L
      · have hjl : j < (mb m).length := by have := HLL.out; omega
        obtain ⟨y, hy, hy64, _⟩ := mb_at hjl
        obtain ⟨b, o, rfl, hbl, hc1⟩ := (HRB.out.below hb.out).atI hlt
        rw [hy] at hc1
        by_cases hyn : y < n
        · have ty : decide (n ≤ y) = false := by simp; omega
          have ty' : decide ((y : Int) ≥ (n : Int)) = false := by simp; omega
          obtain ⟨b', o', rfl, hbl', hc2⟩ := (HR.out.below (HB2.out.trans (hb.out.mono HB2.out.size))).atS hyn
          have htk := Lib.hid (nm_take (ts := ts) hjl hy)
          have hlo2 : Hid (∀ q, q < j + 1 → ig (mb m) q < n) := fun q hq => by
            by_cases e : q = j
            · rw [e, hy]; omega
            · exact hlo.out q (by omega)
          clear hy hbl hbl' hjl
          go_wp2_with (at_builtin; refine wpList_pushV rfl (.tmp 26) (.tmp 31) _ rfl w2.heap.size 9 _ 16 (by decide) rfl Tryd.underlying22 info_str wr B j d _ _ rfl rfl hown' rfl (by omega) hszz ?_; intro g' c' w' hown2 hb2)
          have HBB := Lib.hid (hb.out.trans hb2)
          have HO2 := Lib.hid hown2
          go_roundw
          case rel => exact ⟨j + 1, _, c', hlt, by go_num, rfl, (by show World.ownsRow _ _ _ _ _ _ _; rw [htk.out]; exact HO2.out), HBB, hlo2⟩
          case measure => simp [intOf]; omega
        · have ty : decide (n ≤ y) = true := by simp; omega
          have ty' : decide ((y : Int) ≥ (n : Int)) = true := by simp; omega
          have HE := Lib.hid (nm_range (m := m) HZ.out (by
            rw [HL.out]
            intro h
            have := (hi_zero HM.out).1 h j hjl
            rw [hy] at this
            omega))
          clear hy hbl hjl hown' hszz
          go_wp2_with fail
          refine bodyPost_ret (v := .tuple #[.slice none 0 0, .int .i64 6]) (by simp [results, Tryd.results8, go_sem]) rfl ?_
          rw [HE.out.1, HE.out.2]
          exact RetS.nil_ (HB2.out.trans (hb.out.mono HB2.out.size))
      · obtain rfl : j = L := by omega
        have HE := Lib.hid (nm_ok (m := m) HZ.out (by
          rw [HL.out, hi_zero HM.out]
          intro q hq
          exact hlo.out q (by have := HLL.out; omega)))
        have hl2 : (nmE ts m).take j = nmE ts m := List.take_of_length_le (by rw [nmE_len, HLL.out]; exact Nat.le_refl _)
        rw [hl2] at hown'
        have hcap := own_cap hown'
        have hrd := Lib.hid (Rd.of_own hown')
        have hlen : Hid ((nmE ts m).length = j) := by show _ = _; rw [nmE_len, HLL.out]
        clear hown' hl2 hszz
        go_wp2_with fail
        refine bodyPost_ret (v := .tuple #[.slice B j d, .int .i64 0]) (by simp [results, Tryd.results8, go_sem]) rfl ?_
        rw [HE.out.1, HE.out.2]
        have h1 := hrd.out
        rw [← hlen.out] at h1 hcap ⊢
        exact ⟨⟨B, d, rfl, hcap, h1⟩, HB2.out.trans (hb.out.mono HB2.out.size)⟩
  · have t0 : (z != 0) = true := bne_iff_ne.2 h0
    have HE := Lib.hid (nm_chk (ts := ts) (m := m) (by rw [hz]; exact h0))
    have HZ := Lib.hid hz
    clear hz h0
    go_enter Tryd.func8, Tryd.ntmps8
    go_wp2_with fail
    refine hC.out.mono ?_
    rintro e w1 ⟨rfl, rfl⟩
    clear hC
    go_wp2_with fail
    refine bodyPost_ret (v := .tuple #[.slice none 0 0, .int .i64 z]) (by simp [results, Tryd.results8, go_sem]) rfl ?_
    rw [HE.out.1, HE.out.2, HZ.out]
    exact RetS.nil_ (Below.refl _ _)
def sameT (xs ys : List (List Int)) : Bool := decide (xs = ys)
theorem tg_ext {xs ys : List (List Int)} (hl : xs.length = ys.length) (h : ∀ k, k < xs.length → tg xs k = tg ys k) : xs = ys := by
  refine List.ext_getElem hl fun k h1 h2 => ?_
  have := h k h1
  rwa [tg_get h1, tg_get h2] at this
set_option maxRecDepth 100000 in
set_option maxHeartbeats 2000000 in
theorem ref_texts (A B : Option Addr) (n m c d L L' : Nat) (xs ys : List (List Int)) (hx : ∀ t ∈ xs, Bytes t) (hy : ∀ t ∈ ys, Bytes t) (w : World) (hr : Rd w L A n (xs.map sv)) (hr2 : Rd w L' B m (ys.map sv)) (hn : n ≤ 4611686018427387904) (hm : m ≤ 4611686018427387904) :
    Calls Tryd.prog 15 #[.slice A n c, .slice B m d] w fun e w' => e = .returned (.bool (sameT xs ys)) ∧ ∃ q, w' = w.drewN q := by
  have hnl : xs.length = n := by simpa using hr.1
  have hml : ys.length = m := by simpa using hr2.1
  have HX := Lib.hid hx
  have HY := Lib.hid hy
  have HR := Lib.hid hr
  have HR2 := Lib.hid hr2
  have HL := Lib.hid hnl
  have HL2 := Lib.hid hml
  clear hx hy hr hr2 hnl hml
  by_cases hnm : n = m
  · subst hnm
    go_enter Tryd.func15, Tryd.ntmps15
    go_wp2
    go_loopw [13] (fun v wr => ∃ j : Nat, j ≤ n ∧ v = .int .i64 j ∧ (∃ k, wr = w.drewN k) ∧ Hid (∀ q, q < j → tg xs q = tg ys q)) (fun v _ => n - (intOf v).toNat)
    case atStart => exact ⟨0, Nat.zero_le _, rfl, ⟨0, rfl⟩, (show ∀ q, q < 0 → _ from fun q hq => absurd hq (by omega))⟩
    case round =>
      obtain ⟨j, hj, rfl, ⟨kd, rfl⟩, hv⟩ := hrel
      by_cases hlt : j < n
      · have hjl : j < xs.length := by have := HL.out; omega
        have hjl2 : j < ys.length := by have := HL2.out; omega
        obtain ⟨b, o, rfl, hbl, hc1⟩ := HR.out.atS hlt
        obtain ⟨b', o', rfl, hbl', hc2⟩ := HR2.out.atS hlt
        have heq := str_toList (tg xs j) (tg ys j) (HX.out _ (tg_mem hjl)) (HY.out _ (tg_mem hjl2))
        by_cases he : tg xs j = tg ys j
        · rw [decide_eq_true he] at heq
          have HV : Hid (∀ q, q < j + 1 → tg xs q = tg ys q) := fun q hq => by
            by_cases e : q = j
            · rw [e]; exact he
            · exact hv.out q (by omega)
          clear he
          go_wp2
          go_quiet (fail)
          go_wp2
          go_roundw
          case rel => exact ⟨j + 1, by omega, by go_num, ⟨_, rfl⟩, HV⟩
          case measure => simp [intOf]; omega
        · rw [decide_eq_false he] at heq
          have HE : Hid (sameT xs ys = false) := by
            show _ = _; unfold sameT; simp; intro e; rw [e] at he; exact he rfl
          clear he
          go_wp2
          go_quiet (fail)
          go_wp2
          go_ret
          exact ⟨ret_bool HE.out.symm, ⟨_, World.drewN_drewN ..⟩⟩
      · obtain rfl : j = n := by omega
        have HE : Hid (sameT xs ys = true) := by
          show _ = _; unfold sameT; rw [decide_eq_true_iff]
          exact tg_ext (by rw [HL.out, HL2.out]) fun k hk => hv.out k (by have := HL.out; omega)
        go_wp2
        go_ret
        exact ⟨ret_bool HE.out.symm, ⟨_, rfl⟩⟩
  · have t1 : ((n : Int) != (m : Int)) = true := by simp; omega
    have HE : Hid (sameT xs ys = false) := by
      show _ = _; unfold sameT; simp; rintro rfl; exact hnm (by rw [← HL.out, ← HL2.out])
    clear hnm
    go_enter Tryd.func15, Tryd.ntmps15
    go_wp2
    go_ret
    exact ⟨ret_bool HE.out.symm, ⟨0, rfl⟩⟩
end Go.Proofs.YtokgcjhlmohjgaaDoor
