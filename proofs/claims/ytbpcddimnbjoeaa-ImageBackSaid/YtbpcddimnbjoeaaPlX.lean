/- Lists of neighbours: Right. -/
import Derived.Test.YtbpcddimnbjoeaaPlW
import Derived.Test.YtbpcddimnbjoeaaSub
namespace Go.Proofs.Ytbpcddimnbjoeaa
open Go.RowKit Go.Maps Go.ChangeMaps Go.MapKept
set_option maxRecDepth 100000 in
set_option maxHeartbeats 2000000 in
theorem rf_right (A : Option Addr) (n c : Nat) (xs : List Int) (self links level slots : Int) (w : World) (hr : Rd w w.heap.size A n (xs.map (.int .i64))) (hn : n ≤ 1048576) (hc : n ≤ c) :
    Calls Try.prog 74 #[.slice A n c, .int .i64 self, .int .i64 links, .int .i64 level, .int .i64 slots] w fun e w' => e = .returned (.bool (rightB xs self links level slots)) ∧ w = w' := by
  have HR := Lib.hid hr
  have HL := Lib.hid hr.lenI
  have HM := Lib.hid (rf_most links level w)
  clear hr
  go_enter Try.func74, Try.ntmps74
  go_wp2_with fail
  go_loop [15] (fun s15 => ∃ j : Nat, j ≤ n ∧ s15 = .int .i64 j ∧ Hid ((∀ k, k < j → okE self slots (ig xs k) = true) ∧ (xs.take j).Nodup)) (fun s15 => n - (intOf s15).toNat)
  case atStart => exact ⟨0, Nat.zero_le _, rfl, Lib.hid ⟨fun k hk => absurd hk (by omega), by simp⟩⟩
  case round =>
    obtain ⟨j, hj, rfl, hq⟩ := hrel
    by_cases hlt : j < n
    · have hsl := run_hi (P := Try.prog) Try.underlying43 size_ints A n c j (by omega)
      have HH := rf_has A j c (xs.take j) (ig xs j) w (HR.out.take1 (Nat.le_of_lt hlt)) (by omega)
      have hjl : j < xs.length := by rw [HL.out]; exact hlt
      obtain ⟨b, o, rfl, hb, hcell⟩ := HR.out.atI hlt
      have hok : okE self slots (ig xs j) = (!(ig xs j == self) && !decide (ig xs j < 1) && !decide (slots < ig xs j)) := rfl
      have hbad := fun h => right_bad (self := self) (links := links) (level := level) (slots := slots) hjl h
      have htw := fun h => right_twice (self := self) (links := links) (level := level) (slots := slots) hjl h
      have hns := nodup_step hjl hq.out.2
      have hst : okE self slots (ig xs j) = true → ∀ k, k < j + 1 → okE self slots (ig xs k) = true := by
        intro h k hk
        by_cases e : k = j
        · rw [e]; exact h
        · exact hq.out.1 k (by omega)
      obtain ⟨x, hx⟩ : ∃ x, ig xs j = x := ⟨_, rfl⟩
      rw [hx] at hcell HH hok hbad htw hns hst
      clear hx hjl
      cases t1 : (x == self) with
      | true =>
        have HQ : Hid (rightB xs self links level slots = false) := hbad (by rw [hok, t1]; rfl)
        clear hok hbad htw hns hst HH hsl
        go_wp2_with fail
        go_ret
        exact ⟨by rw [HQ.out]; rfl, rfl⟩
      | false =>
        cases t2 : decide (x < 1) with
        | true =>
          have HQ : Hid (rightB xs self links level slots = false) := hbad (by rw [hok, t1, t2]; rfl)
          clear hok hbad htw hns hst HH hsl
          go_wp2_with fail
          go_ret
          exact ⟨by rw [HQ.out]; rfl, rfl⟩
        | false =>
          cases t3 : decide (x > slots) with
          | true =>
            have HQ : Hid (rightB xs self links level slots = false) := hbad (by rw [hok, t1, t2, show decide (slots < x) = true from t3]; rfl)
            clear hok hbad htw hns hst HH hsl
            go_wp2_with fail
            go_ret
            exact ⟨by rw [HQ.out]; rfl, rfl⟩
          | false =>
            have hoT : okE self slots x = true := by rw [hok, t1, t2, show decide (slots < x) = false from t3]; rfl
            cases t4 : hasI (xs.take j) x with
            | true =>
              have HQ : Hid (rightB xs self links level slots = false) := htw t4
              rw [t4] at HH
              replace HH := Lib.hid HH
              clear hok hbad htw hns hst hoT t4
              go_wp2_with (go_at_call 75; refine HH.out.mono ?_; rintro e w3 ⟨rfl, rfl⟩)
              go_ret
              exact ⟨by rw [HQ.out]; rfl, rfl⟩
            | false =>
              have HQ : Hid ((∀ k, k < j + 1 → okE self slots (ig xs k) = true) ∧ (xs.take (j + 1)).Nodup) := ⟨hst hoT, hns t4⟩
              rw [t4] at HH
              replace HH := Lib.hid HH
              clear hok hbad htw hns hst hoT t4
              go_wp2_with (go_at_call 75; refine HH.out.mono ?_; rintro e w3 ⟨rfl, rfl⟩)
              go_round
              case rel => exact ⟨j + 1, by omega, by go_num, HQ⟩
              case measure => simp [intOf]; omega
    · obtain rfl : j = n := by omega
      have hv := right_all (xs := xs) (self := self) (links := links) (level := level) (slots := slots) (fun k hk => hq.out.1 k (by rw [← HL.out]; exact hk))
      have hnd : xs.Nodup := by have := hq.out.2; rwa [List.take_of_length_le (by rw [HL.out]; exact Nat.le_refl _)] at this
      rw [decide_eq_true hnd, Bool.true_and, HL.out] at hv
      obtain ⟨q, hqq⟩ : ∃ q, mostE links level = q := ⟨_, rfl⟩
      rw [hqq] at HM hv
      have hb := mostE_bd links level
      rw [hqq] at hb
      obtain ⟨hb1, hb2⟩ := hb
      cases t : decide ((j : Int) ≤ q) with
      | true =>
        have HQ : Hid (rightB xs self links level slots = true) := hv.trans t
        clear hv hqq hq hnd
        go_wp2_with (go_at_call 72; refine HM.out.mono ?_; rintro e w3 ⟨rfl, rfl⟩)
        go_ret
        exact ⟨by rw [HQ.out]; rfl, rfl⟩
      | false =>
        have HQ : Hid (rightB xs self links level slots = false) := hv.trans t
        clear hv hqq hq hnd
        go_wp2_with (go_at_call 72; refine HM.out.mono ?_; rintro e w3 ⟨rfl, rfl⟩)
        go_ret
        exact ⟨by rw [HQ.out]; rfl, rfl⟩
set_option maxRecDepth 100000 in
set_option maxHeartbeats 2000000 in
theorem pl_right (A : Option Addr) (n c : Nat) (xs : List Int) (self links level slots : Int) (w : World) (hr : Rd w w.heap.size A n (xs.map (.int .i64))) (hn : n ≤ 1048576) (hwf : ∀ x ∈ xs, (Lit.int .i64 x).wf = true) :
    Calls Try.prog 64 #[.slice A n c, .int .i64 self, .int .i64 links, .int .i64 level, .int .i64 slots] w (RetB (rightB xs self links level slots) w) := by
  have HR := Lib.hid hr
  have HL := Lib.hid hr.lenI
  have HW := Lib.hid hwf
  have hmm := fun w => run_makeMap (P := Try.prog) 114 w
  have m1 : MpAt (w.alloc (.map #[] 0)) 3 w.heap.size 0 (.map []) := World.ownsMap_made w Try.prog 3 (plainElem (H := Unit) Try.prog 3)
  have HM1 := Lib.hid m1
  have HMB : Hid (Below w.heap.size w (w.alloc (.map #[] 0))) := bel_box _ _
  clear hr hwf m1
  go_enter Try.func64, Try.ntmps64
  go_wp2_with fail
  go_loopw [17] (fun s17 wr => ∃ j : Nat, j ≤ n ∧ s17 = .int .i64 j ∧ Hid (∀ k, k < j → okE self slots (ig xs k) = true) ∧ Hid (Below w.heap.size w wr ∧ ∃ D, MpAt wr 3 w.heap.size j D ∧ CmD .i64 D (xs.take j))) (fun s17 _ => n - (intOf s17).toNat)
  case atStart => exact ⟨0, Nat.zero_le _, rfl, Lib.hid (fun k hk => absurd hk (by omega)), Lib.hid ⟨HMB.out, _, HM1.out, CmD.nil_ _⟩⟩
  case round =>
    obtain ⟨j, hj, rfl, hq, hmb⟩ := hrel
    obtain ⟨hb0, D, hM, hD⟩ := hmb.out
    have HM := Lib.hid hM
    have HD := Lib.hid hD
    have HB0 := Lib.hid hb0
    clear hM hD hb0
    by_cases hlt : j < n
    · have hjl : j < xs.length := by rw [HL.out]; exact hlt
      obtain ⟨b, o, rfl, hb, hcell0⟩ := HR.out.atI hlt
      have hcell := (HB0.out.cell (p := ⟨b, o + j, none⟩) hb).trans hcell0
      have hok : okE self slots (ig xs j) = (!(ig xs j == self) && !decide (ig xs j < 1) && !decide (slots < ig xs j)) := rfl
      have hbad := fun h => right_bad (self := self) (links := links) (level := level) (slots := slots) hjl h
      have hst : okE self slots (ig xs j) = true → ∀ k, k < j + 1 → okE self slots (ig xs k) = true := by
        intro h k hk
        by_cases e : k = j
        · rw [e]; exact h
        · exact hq.out k (by omega)
      have hwx : (Lit.int .i64 (ig xs j)).wf = true := HW.out _ (by simp only [ig, List.getD_eq_getElem?_getD, List.getElem?_eq_getElem hjl, Option.getD_some]; exact List.getElem_mem hjl)
      have hsn := HD.out.snoc (ig xs j)
      rw [← take_step hjl] at hsn
      have hcl : (xs.take j).count (ig xs j) ≤ 1048576 := by have h1 := count_le (xs.take j) (ig xs j); rw [List.length_take] at h1; omega
      obtain ⟨x, hx⟩ : ∃ x, ig xs j = x := ⟨_, rfl⟩
      rw [hx] at hcell hok hbad hst hwx hsn hcl
      clear hx hjl hcell0
      have hkey := keyOf_int_mk (P := Try.prog) Try.underlying3 hwx
      cases t1 : (x == self) with
      | true =>
        have HQ : Hid (rightB xs self links level slots = false) := hbad (by rw [hok, t1]; rfl)
        clear hok hbad hst
        go_wp2_with fail
        go_ret
        exact ⟨by rw [HQ.out]; rfl, hmb.out.1⟩
      | false =>
        cases t2 : decide (x < 1) with
        | true =>
          have HQ : Hid (rightB xs self links level slots = false) := hbad (by rw [hok, t1, t2]; rfl)
          clear hok hbad hst
          go_wp2_with fail
          go_ret
          exact ⟨by rw [HQ.out]; rfl, hmb.out.1⟩
        | false =>
          cases t3 : decide (x > slots) with
          | true =>
            have HQ : Hid (rightB xs self links level slots = false) := hbad (by rw [hok, t1, t2, show decide (slots < x) = true from t3]; rfl)
            clear hok hbad hst
            go_wp2_with fail
            go_ret
            exact ⟨by rw [HQ.out]; rfl, hmb.out.1⟩
          | false =>
            have hoT : okE self slots x = true := by rw [hok, t1, t2, show decide (slots < x) = false from t3]; rfl
            have HQ := Lib.hid (hst hoT)
            obtain ⟨cn, hcn⟩ : ∃ cn : Nat, (xs.take j).count x = cn := ⟨_, rfl⟩
            rw [hcn] at hsn hcl
            have HCN := Lib.hid hcn
            have HSN := Lib.hid hsn
            have hv := plainElem_int (H := Unit) (P := Try.prog) Try.underlying3 (wf_cnt (n := cn) (by omega))
            have hmx : j < maxLen := by unfold maxLen; omega
            clear hok hbad hst hoT hcn hsn hwx
            go_wp2_with (first
              | (at_lookup; refine wpList_lookup_own_int _ rfl (.tmp 33) (.tmp 34) 114 rfl 3 3 .i64 lawI Try.underlying114 Try.underlying3 (zeroI _) w.heap.size j D rfl HM.out (.int .i64 x) (.int .i64 x) rfl hkey ?_; intro cc hat hwc; obtain rfl : cc = (cn : Int) := (cnt_eq HD.out hat).trans (by rw [HCN.out]); clear hat hwc)
              | (at_mapUpdate; (refine wpList_mapUpdate_own _ rfl (.tmp 33) (.tmp 34) (.tmp 36) 114 rfl 3 3 lawI Try.underlying114 (plainElem Try.prog 3) w.heap.size j D rfl HM.out hmx (.int .i64 x) (.int .i64 ((cn : Int) + 1)) (.int .i64 x) rfl rfl hkey (.lit (.int .i64 ((cn : Int) + 1))) [] hv ?_; intro w3 hM3 hg3; have hb3 : Hid (Below w.heap.size w w3) := HB0.out.grown hg3 HB0.out.size (fun k hk => (by injection hk with hk; omega)); replace hM3 := Lib.hid hM3; clear hg3)))
            go_roundw
            case rel => exact ⟨j + 1, by omega, by go_num, HQ, Lib.hid ⟨hb3.out, _, hM3.out, HSN.out⟩⟩
            case measure => simp [intOf]; omega
    · obtain rfl : j = n := by omega
      have htk : xs.take j = xs := List.take_of_length_le (by rw [HL.out]; exact Nat.le_refl _)
      have hv := right_all (xs := xs) (self := self) (links := links) (level := level) (slots := slots) (fun k hk => hq.out k (by rw [← HL.out]; exact hk))
      have h2 := HD.out.size2
      rw [htk, HL.out] at h2
      rw [HL.out] at hv
      obtain ⟨sz, hsz⟩ : ∃ sz, Maps.size D = sz := ⟨_, rfl⟩
      rw [hsz] at h2
      have HSZ := Lib.hid hsz
      have HMO := eg_most links level wr
      obtain ⟨q, hqq⟩ : ∃ q, mostE links level = q := ⟨_, rfl⟩
      rw [hqq] at HMO hv
      have hb := mostE_bd links level
      rw [hqq] at hb
      obtain ⟨hb1, hb2⟩ := hb
      replace HMO := Lib.hid HMO
      by_cases hnd : xs.Nodup
      · obtain rfl := h2.2 hnd
        rw [decide_eq_true hnd, Bool.true_and] at hv
        cases t : decide ((sz : Int) ≤ q) with
        | true =>
          have HQ : Hid (rightB xs self links level slots = true) := hv.trans t
          clear hv hqq hnd hsz h2 htk
          go_wp2_with (first
            | (at_len; (refine wpList_len_own _ rfl (.tmp 38) 114 rfl 3 3 Try.underlying114 (plainElem Try.prog 3) w.heap.size _ D rfl HM.out ?_; rw [HSZ.out]))
            | (go_at_call 71; refine HMO.out.mono ?_; rintro e w3 ⟨rfl, rfl⟩))
          go_ret
          exact ⟨by rw [HQ.out]; rfl, HB0.out⟩
        | false =>
          have HQ : Hid (rightB xs self links level slots = false) := hv.trans t
          clear hv hqq hnd hsz h2 htk
          go_wp2_with (first
            | (at_len; (refine wpList_len_own _ rfl (.tmp 38) 114 rfl 3 3 Try.underlying114 (plainElem Try.prog 3) w.heap.size _ D rfl HM.out ?_; rw [HSZ.out]))
            | (go_at_call 71; refine HMO.out.mono ?_; rintro e w3 ⟨rfl, rfl⟩))
          go_ret
          exact ⟨by rw [HQ.out]; rfl, HB0.out⟩
      · have hne : ¬ sz = j := fun e => hnd (h2.1 e)
        have hne' : ((sz : Int) == (j : Int)) = false := beq_false_of_ne (by omega)
        have HQ : Hid (rightB xs self links level slots = false) := by rw [decide_eq_false hnd] at hv; exact hv
        clear hv hqq hnd hsz h2 htk
        go_wp2_with (at_len; (refine wpList_len_own _ rfl (.tmp 38) 114 rfl 3 3 Try.underlying114 (plainElem Try.prog 3) w.heap.size _ D rfl HM.out ?_; rw [HSZ.out]))
        go_ret
        exact ⟨by rw [HQ.out]; rfl, HB0.out⟩
end Go.Proofs.Ytbpcddimnbjoeaa
