/- Reach: ReachTells, walked. Printed by genReP.py. -/
import Derived.Test.YtkhnnjeinpojkaaReMb
import Derived.Test.YtkhnnjeinpojkaaPmS
namespace Go.Proofs.Ytkhnnjeinpojkaa
open Go.RowKit Go.Maps Go.ChangeMaps Go.MapKept
theorem run_eqlBr (m n : Bool) (w : World) : (binOp .eql 4 (.bool m) (.bool n)).run Try.prog w = .ok (.bool (m == n)) w := by
  cases m <;> cases n <;> kernel_rfl
theorem yieldsIf_eqlBr {ops : Array Oper} {S : World → Prop} {o : Oper} {a : Act} {t' : TypeId} {m n r : Bool} (hw : Region.wanted o (yielded ops a.tmps) = true) (x y : Operand) (ho : o.op = .binOp .eql 4 x y t') (hx : a.eval x = .bool m) (hy : a.eval y = .bool n) (hr : (m == n) = r) : YieldsIf Try.prog ops S o (.bool r) a := by
  refine .inl ⟨hw, fun w _ => ?_⟩
  unfold execOp
  simp only [ho, hx, hy, Sem.run_bind, run_eqlBr, hr]
  rfl
theorem grp_le (ns : List ND) (level : Int) : (grpI ns level).length ≤ ns.length := by
  have h1 := (grp_len ns level (liveI ns) ([], [])).1
  have h2 := liveI_le ns
  unfold grpI
  simp only [List.length_nil, Nat.zero_add] at h1
  omega
set_option maxRecDepth 100000 in
set_option maxHeartbeats 4000000 in
theorem tells16 (A : Option Addr) (n c : Nat) (ns : List ND) (en tp : Int) (sA : Option Addr) (sn sc : Nat) (xs : List Int) (a b level : Int) (w : World) (hg : PgRaw w w.heap.size A n c ns)
    (hr : Rd w w.heap.size sA sn (xs.map (.int .i64))) (hwf : ∀ x ∈ xs, -9223372036854775808 ≤ x ∧ x ≤ 9223372036854775807) (hA : sA = none → sc = 0) (hsc : sn ≤ sc ∧ sc ≤ maxLen) (ha : (Lit.int .i64 a).wf = true) :
    Calls Try.prog 8 #[.agg (pgL A n c en tp), .slice sA sn sc, .int .i64 a, .int .i64 b, .int .i64 level] w (RetB true w) := by
  obtain ⟨w1, hw1⟩ : ∃ x, w.alloc (.cells (pgL A n c en tp) 56) = x := ⟨_, rfl⟩
  obtain ⟨C1, b1⟩ := box_plane hw1
  have HR1 := (hg.below b1).more b1.size
  have LP := plane_load C1
  have HSM := small12 A n c ns en tp w1 HR1
  have HB := Lib.hid b1
  have HC1 := Lib.hid C1
  have HR := Lib.hid HR1
  have HRD := Lib.hid ((hr.below b1).more b1.size)
  have HWF : Hid (∀ x ∈ xs, (Lit.int .i64 x).wf = true) := fun x hx => wf_i64 (hwf x hx).1 (hwf x hx).2
  have HA : Hid (sA = none → sn = 0 ∧ sc = 0) := fun e => by have := hA e; omega
  have HWA := Lib.hid ha
  have hxl := hr.lenI
  have hsl : sn ≤ 9223372036854775807 := by have := hsc.2; unfold maxLen at this; omega
  obtain ⟨sm, hsm⟩ : ∃ sm, smB ns = sm := ⟨_, rfl⟩
  rw [hsm] at HSM
  have HSB := Lib.hid hsm
  clear hg C1 b1 HR1 hsm hr hwf hA hsc ha
  unfold pgL at hw1 LP HSM ⊢
  replace HSM := Lib.hid HSM
  go_enter Try.func8, Try.ntmps8
  go_upto_region 1 with fail
  (try rw [hw1])
  clear hw1
  cases sm with
  | false =>
    have HSM' : Hid (Calls Try.prog 20 #[.agg #[.slice A n c, .int .i64 en, .int .i64 tp]] w1 (RetZ 0 w1)) := HSM.out
    clear HSM
    go_wp2_with (first
      | ((with_reducible refine wpList_loadE (op := ⟨some 15, _, _, _, _, _⟩) LP ?leX ?leG ?leO ?leE ?_); (case leO => exact rfl); (case leE => exact rfl); (case leG => exact rfl))
      | (go_at_call 20; (with_reducible refine HSM'.out.mono ?_); rintro e w2 ⟨rfl, b2⟩; have HB2 := Lib.hid (HB.out.trans (b2.mono HB.out.size)); have HLV := Lib.hid (lives16 w2); clear b2)
      | (go_at_call 51; (with_reducible refine HLV.out.mono ?_); rintro e w3 ⟨rfl, b3⟩; have HB3 := Lib.hid (HB2.out.trans (b3.mono HB2.out.size)); clear b3))
    go_ret
    exact ⟨rfl, HB3.out⟩
  | true =>
    have HSM' : Hid (Calls Try.prog 20 #[.agg #[.slice A n c, .int .i64 en, .int .i64 tp]] w1 (RetZ 1 w1)) := HSM.out
    clear HSM
    cases h30 : decide ((30 : Int) < (sn : Int)) with
    | true =>
      go_wp2_with (first
        | ((with_reducible refine wpList_loadE (op := ⟨some 15, _, _, _, _, _⟩) LP ?lfX ?lfG ?lfO ?lfE ?_); (case lfO => exact rfl); (case lfE => exact rfl); (case lfG => exact rfl))
        | (go_at_call 20; (with_reducible refine HSM'.out.mono ?_); rintro e w2 ⟨rfl, b2⟩; have HB2 := Lib.hid (HB.out.trans (b2.mono HB.out.size)); have HLV := Lib.hid (lives16 w2); clear b2)
        | (go_at_call 51; (with_reducible refine HLV.out.mono ?_); rintro e w3 ⟨rfl, b3⟩; have HB3 := Lib.hid (HB2.out.trans (b3.mono HB2.out.size)); clear b3))
      go_ret
      exact ⟨rfl, HB3.out⟩
    | false =>
      have hs30 : sn ≤ 30 := by have := of_decide_eq_false h30; omega
      have hnl : ns.length ≤ 20 := by
        have h1 := HSB.out
        unfold smB at h1
        rw [Bool.and_eq_true, decide_eq_true_eq] at h1
        exact h1.1
      have HQ : Hid ((sn + ns.length) + ns.length * (sn + ns.length) ≤ 1048576) := sq_le (by omega) hs30
      have HQ2 : Hid (xs.length + ns.length * (xs.length + ns.length) ≤ 1048576) := sq_le2 (by omega) (by omega)
      have HQ3 : Hid ((1 + ns.length) + ns.length * (1 + ns.length) ≤ 1048576) := sq_le (by omega) (by decide)
      have HQ4 : Hid (1 + ns.length * (1 + ns.length) ≤ 1048576) := sq_le2 (by omega) (by decide)
      have HN : Hid (ns.length ≤ 1000) := by show _ ≤ _; omega
      have HFL : Hid ((fromI ns level xs).length ≤ 1000) := Nat.le_trans (fromI_le ns level xs) HN.out
      have HGL : Hid ((grpI ns level).length ≤ 1000) := Nat.le_trans (grp_le ns level) HN.out
      go_upto_region 3 with (first
        | ((with_reducible refine wpList_loadE (op := ⟨some 15, _, _, _, _, _⟩) LP ?lgX ?lgG ?lgO ?lgE ?_); (case lgO => exact rfl); (case lgE => exact rfl); (case lgG => exact rfl))
        | (go_at_call 20; (with_reducible refine HSM'.out.mono ?_); rintro e w2 ⟨rfl, b2⟩; have HB2 := Lib.hid (HB.out.trans (b2.mono HB.out.size)); have HG := Lib.hid ((HR.out.at_ HSB.out).on b2 b2.size); have HC := Lib.hid (HC1.out.below b2 HC1.out.lt); have HRD2 := Lib.hid ((HRD.out.below b2).more b2.size); clear b2))
      have HCP := pl_steps ns.length A n c ns en tp a b level w2 HG.out HWA.out (fun s => near_le ns s level) HQ4.out
      have LP2 := plane_load HC.out
      unfold pgL at LP2 HCP
      replace HCP := Lib.hid HCP
      clear LP HSM' HR HSB HRD HC1
      go_upto_region 4 with (first
        | ((with_reducible refine wpList_loadE (op := ⟨some 25, _, _, _, _, _⟩) LP2 ?lhX ?lhG ?lhO ?lhE ?_); (case lhO => exact rfl); (case lhE => exact rfl); (case lhG => exact rfl))
        | (go_at_call 52; (with_reducible refine HCP.out.mono ?_); rintro e w3 ⟨r, is, rfl, hst, b3⟩; have HST := Lib.hid hst; have HB3 := Lib.hid (HB2.out.trans (b3.mono HB2.out.size)); have HG3 := Lib.hid (HG.out.on b3 b3.size); have HC3 := Lib.hid (HC.out.below b3 HC.out.lt); have HRD3 := Lib.hid ((HRD2.out.below b3).more b3.size); clear b3 hst))
      have HCR := rf_steps ns.length A n c ns en tp a b level w3 HG3.out (fun s => near_le ns s level) HQ3.out
      have LP3 := plane_load HC3.out
      unfold pgL at LP3 HCR
      replace HCR := Lib.hid HCR
      clear LP2 HCP HG HC HB2 HRD2
      go_upto_region 5 with (first
        | ((with_reducible refine wpList_loadE (op := ⟨some 33, _, _, _, _, _⟩) LP3 ?lkX ?lkG ?lkO ?lkE ?_); (case lkO => exact rfl); (case lkE => exact rfl); (case lkG => exact rfl))
        | (go_at_call 53; (with_reducible refine HCR.out.mono ?_); rintro e w4 ⟨r', is', rfl, hst', b4⟩; obtain ⟨rfl, rfl⟩ := HST.out.uniq hst'; have HB4 := Lib.hid (HB3.out.trans (b4.mono HB3.out.size)); have HG4 := Lib.hid (HG3.out.on b4 b4.size); have HC4 := Lib.hid (HC3.out.below b4 HC3.out.lt); have HR4 := Lib.hid ((HRD3.out.below b4).more b4.size); clear b4 hst'))
      clear LP3 HCR HG3 HC3 HB3 HRD3 HST
      refine wp_region_held_drew (S := fun w' => Below w4.heap.size w4 w') (by kernel_rfl) (below_drewN (Below.refl _ w4) 1) (fun hH => ?_)
      refine wpAnyH_call 0 51 #[] _ (by kernel_rfl) (by rfl) (by kernel_rfl) (by kernel_rfl) (lives16 _) ?_
      rintro e Z1 ⟨rfl, bz⟩
      have h1 : Below w4.heap.size w4 Z1 := hH.trans (bz.mono hH.size)
      clear bz
      refine ⟨_, rfl, h1, ?_⟩
      clear hH
      (try simp only [List.getElem_toArray, List.getElem_cons_zero, Act.put, List.setIfInBounds_toArray, List.set_cons_zero, List.set_cons_succ])
      refine wpAnyH_take (i := 1) (v := .bool true) rfl (by kernel_rfl) (by kernel_rfl) (by kernel_rfl) (fun _ _ _ h => h) (.inl ⟨by rfl, fun _ _ => by kernel_rfl⟩) h1 ?_
      (try simp only [List.getElem_toArray, List.getElem_cons_zero, List.getElem_cons_succ, Act.put, List.setIfInBounds_toArray, List.set_cons_zero, List.set_cons_succ])
      refine wpAnyH_take (i := 2) (v := .agg (pgL A n c en tp)) rfl (by kernel_rfl) (by kernel_rfl) (by kernel_rfl) (fun _ _ _ h => h) (yieldsIf_loadP (by rfl) _ rfl rfl (fun _ q => plane_load (HC4.out.below q HC4.out.lt))) h1 ?_
      (try simp only [List.getElem_toArray, List.getElem_cons_zero, List.getElem_cons_succ, Act.put, List.setIfInBounds_toArray, List.set_cons_zero, List.set_cons_succ])
      refine wpAnyH_take (i := 3) (v := .slice sA sn sc) rfl (by kernel_rfl) (by kernel_rfl) (by kernel_rfl) (fun _ _ _ h => h) (.inl ⟨by rfl, fun _ _ => by kernel_rfl⟩) h1 ?_
      (try simp only [List.getElem_toArray, List.getElem_cons_zero, List.getElem_cons_succ, Act.put, List.setIfInBounds_toArray, List.set_cons_zero, List.set_cons_succ])
      refine wpAnyH_take (i := 4) (v := .int .i64 level) rfl (by kernel_rfl) (by kernel_rfl) (by kernel_rfl) (fun _ _ _ h => h) (.inl ⟨by rfl, fun _ _ => by kernel_rfl⟩) h1 ?_
      (try simp only [List.getElem_toArray, List.getElem_cons_zero, List.getElem_cons_succ, Act.put, List.setIfInBounds_toArray, List.set_cons_zero, List.set_cons_succ])
      refine wpAnyH_take (i := 6) (v := .agg (pgL A n c en tp)) rfl (by kernel_rfl) (by kernel_rfl) (by kernel_rfl) (fun _ _ _ h => h) (yieldsIf_loadP (by rfl) _ rfl rfl (fun _ q => plane_load (HC4.out.below q HC4.out.lt))) h1 ?_
      (try simp only [List.getElem_toArray, List.getElem_cons_zero, List.getElem_cons_succ, Act.put, List.setIfInBounds_toArray, List.set_cons_zero, List.set_cons_succ])
      refine wpAnyH_take (i := 7) (v := .slice sA sn sc) rfl (by kernel_rfl) (by kernel_rfl) (by kernel_rfl) (fun _ _ _ h => h) (.inl ⟨by rfl, fun _ _ => by kernel_rfl⟩) h1 ?_
      (try simp only [List.getElem_toArray, List.getElem_cons_zero, List.getElem_cons_succ, Act.put, List.setIfInBounds_toArray, List.set_cons_zero, List.set_cons_succ])
      refine wpAnyH_take (i := 8) (v := .int .i64 level) rfl (by kernel_rfl) (by kernel_rfl) (by kernel_rfl) (fun _ _ _ h => h) (.inl ⟨by rfl, fun _ _ => by kernel_rfl⟩) h1 ?_
      (try simp only [List.getElem_toArray, List.getElem_cons_zero, List.getElem_cons_succ, Act.put, List.setIfInBounds_toArray, List.set_cons_zero, List.set_cons_succ])
      refine wpAnyH_call 5 54 #[.agg (pgL A n c en tp), .slice sA sn sc, .int .i64 level] _ (by kernel_rfl) (by rfl) (by kernel_rfl) (by kernel_rfl) (pl_from ns.length A n c ns en tp level sA sn sc xs _ (HG4.out.on h1 h1.size) ((HR4.out.below h1).more h1.size) HWF.out (fun s => near_le ns s level) HQ2.out) ?_
      rintro e Z2 ⟨A2, m2, d2, rfl, ho2, bz⟩
      have h2 : Below w4.heap.size w4 Z2 := h1.trans (bz.mono h1.size)
      have R2 := Lib.hid ho2.rd
      have L2 := Lib.hid ho2.len
      clear ho2
      clear bz
      refine ⟨_, rfl, h2, ?_⟩
      clear h1
      (try simp only [List.getElem_toArray, List.getElem_cons_zero, List.getElem_cons_succ, Act.put, List.setIfInBounds_toArray, List.set_cons_zero, List.set_cons_succ])
      refine wpAnyH_call 9 55 #[.agg (pgL A n c en tp), .slice sA sn sc, .int .i64 level] _ (by kernel_rfl) (by rfl) (by kernel_rfl) (by kernel_rfl) (rf_from ns.length A n c ns en tp level sA sn sc xs _ (HG4.out.on h2 h2.size) ((HR4.out.below h2).more h2.size) HA.out (fun s => near_le ns s level) HQ.out) ?_
      rintro e Z3 ⟨A3, m3, d3, rfl, ho3, bz⟩
      have h3 : Below w4.heap.size w4 Z3 := h2.trans (bz.mono h2.size)
      replace R2 := Lib.hid ((R2.out.below bz).more bz.size)
      have R3 := Lib.hid ho3.rd
      have L3 := Lib.hid ho3.len
      clear ho3
      clear bz
      refine ⟨_, rfl, h3, ?_⟩
      clear h2
      (try simp only [List.getElem_toArray, List.getElem_cons_zero, List.getElem_cons_succ, Act.put, List.setIfInBounds_toArray, List.set_cons_zero, List.set_cons_succ])
      refine wpAnyH_call 10 26 #[.slice A2 m2 d2, .slice A3 m3 d3] _ (by kernel_rfl) (by rfl) (by kernel_rfl) (by kernel_rfl) (same_ints A2 A3 m2 m3 d2 d3 _ _ _ _ R2.out R3.out (by have := L2.out; have h2 := HFL.out; omega) (by have := L3.out; have h2 := HFL.out; omega)) ?_
      rintro e Z4 ⟨rfl, q, rfl⟩
      have h4 := below_drewN h3 q
      rw [sameBr]
      refine ⟨_, rfl, h4, ?_⟩
      clear h3 R2 R3 L2 L3
      (try simp only [List.getElem_toArray, List.getElem_cons_zero, List.getElem_cons_succ, Act.put, List.setIfInBounds_toArray, List.set_cons_zero, List.set_cons_succ])
      refine wpAnyH_take (i := 11) (v := .bool true) rfl (by kernel_rfl) (by kernel_rfl) (by kernel_rfl) (fun _ _ _ h => h) (.inl ⟨by rfl, fun _ _ => by kernel_rfl⟩) h4 ?_
      (try simp only [List.getElem_toArray, List.getElem_cons_zero, List.getElem_cons_succ, Act.put, List.setIfInBounds_toArray, List.set_cons_zero, List.set_cons_succ])
      refine wpAnyH_take (i := 12) (v := .bool true) rfl (by kernel_rfl) (by kernel_rfl) (by kernel_rfl) (fun _ _ _ h => h) (.inl ⟨by rfl, fun _ _ => by kernel_rfl⟩) h4 ?_
      (try simp only [List.getElem_toArray, List.getElem_cons_zero, List.getElem_cons_succ, Act.put, List.setIfInBounds_toArray, List.set_cons_zero, List.set_cons_succ])
      refine wpAnyH_take (i := 13) (v := .agg (pgL A n c en tp)) rfl (by kernel_rfl) (by kernel_rfl) (by kernel_rfl) (fun _ _ _ h => h) (yieldsIf_loadP (by rfl) _ rfl rfl (fun _ q => plane_load (HC4.out.below q HC4.out.lt))) h4 ?_
      (try simp only [List.getElem_toArray, List.getElem_cons_zero, List.getElem_cons_succ, Act.put, List.setIfInBounds_toArray, List.set_cons_zero, List.set_cons_succ])
      refine wpAnyH_take (i := 14) (v := .int .i64 level) rfl (by kernel_rfl) (by kernel_rfl) (by kernel_rfl) (fun _ _ _ h => h) (.inl ⟨by rfl, fun _ _ => by kernel_rfl⟩) h4 ?_
      (try simp only [List.getElem_toArray, List.getElem_cons_zero, List.getElem_cons_succ, Act.put, List.setIfInBounds_toArray, List.set_cons_zero, List.set_cons_succ])
      refine wpAnyH_take (i := 16) (v := .agg (pgL A n c en tp)) rfl (by kernel_rfl) (by kernel_rfl) (by kernel_rfl) (fun _ _ _ h => h) (yieldsIf_loadP (by rfl) _ rfl rfl (fun _ q => plane_load (HC4.out.below q HC4.out.lt))) h4 ?_
      (try simp only [List.getElem_toArray, List.getElem_cons_zero, List.getElem_cons_succ, Act.put, List.setIfInBounds_toArray, List.set_cons_zero, List.set_cons_succ])
      refine wpAnyH_take (i := 17) (v := .int .i64 level) rfl (by kernel_rfl) (by kernel_rfl) (by kernel_rfl) (fun _ _ _ h => h) (.inl ⟨by rfl, fun _ _ => by kernel_rfl⟩) h4 ?_
      (try simp only [List.getElem_toArray, List.getElem_cons_zero, List.getElem_cons_succ, Act.put, List.setIfInBounds_toArray, List.set_cons_zero, List.set_cons_succ])
      refine wpAnyH_call 15 57 #[.agg (pgL A n c en tp), .int .i64 level] _ (by kernel_rfl) (by rfl) (by kernel_rfl) (by kernel_rfl) (pl_groups ns.length A n c ns en tp level _ (HG4.out.on h4 h4.size) (fun s => near_le ns s level) HQ4.out HN.out) ?_
      rintro e Z5 ⟨A5, m5, d5, is5, rfl, hr5, hl5, he5, bz⟩
      have h5 : Below w4.heap.size w4 Z5 := h4.trans (bz.mono h4.size)
      have R5 := Lib.hid hr5
      have L5 := Lib.hid hl5
      have E5 := Lib.hid he5
      clear hr5 hl5 he5
      clear bz
      refine ⟨_, rfl, h5, ?_⟩
      clear h4
      (try simp only [List.getElem_toArray, List.getElem_cons_zero, List.getElem_cons_succ, Act.put, List.setIfInBounds_toArray, List.set_cons_zero, List.set_cons_succ])
      refine wpAnyH_call 18 58 #[.agg (pgL A n c en tp), .int .i64 level] _ (by kernel_rfl) (by rfl) (by kernel_rfl) (by kernel_rfl) (rf_groups ns.length A n c ns en tp level _ (HG4.out.on h5 h5.size) (fun s => near_le ns s level) HQ3.out HN.out) ?_
      rintro e Z6 ⟨A6, m6, d6, is6, rfl, hr6, hl6, he6, bz⟩
      have h6 : Below w4.heap.size w4 Z6 := h5.trans (bz.mono h5.size)
      replace R5 := Lib.hid ((R5.out.below bz).more bz.size)
      replace L5 := Lib.hid (fun l q => ((L5.out l q).below bz).more bz.size)
      have R6 := Lib.hid hr6
      have L6 := Lib.hid hl6
      have E6 := Lib.hid he6
      clear hr6 hl6 he6
      clear bz
      refine ⟨_, rfl, h6, ?_⟩
      clear h5
      (try simp only [List.getElem_toArray, List.getElem_cons_zero, List.getElem_cons_succ, Act.put, List.setIfInBounds_toArray, List.set_cons_zero, List.set_cons_succ])
      refine wpAnyH_call 19 56 #[.slice A5 m5 d5, .slice A6 m6 d6] _ (by kernel_rfl) (by rfl) (by kernel_rfl) (by kernel_rfl) (same_lists A5 A6 m5 m6 d5 d6 _ _ _ R5.out R6.out L5.out L6.out (E5.out.trans E6.out.symm) (by have h1 := R5.out.len; have h2 := congrArg List.length E5.out; have h3 := HGL.out; simp only [List.length_map] at h1 h2; omega)) ?_
      rintro e Z7 ⟨rfl, bz⟩
      have h7 : Below w4.heap.size w4 Z7 := h6.trans (bz.mono h6.size)
      clear R5 R6 L5 L6 E5 E6
      clear bz
      refine ⟨_, rfl, h7, ?_⟩
      clear h6
      (try simp only [List.getElem_toArray, List.getElem_cons_zero, List.getElem_cons_succ, Act.put, List.setIfInBounds_toArray, List.set_cons_zero, List.set_cons_succ])
      refine wpAnyH_take (i := 20) (v := .bool true) rfl (by kernel_rfl) (by kernel_rfl) (by kernel_rfl) (fun _ _ _ h => h) (.inl ⟨by rfl, fun _ _ => by kernel_rfl⟩) h7 ?_
      (try simp only [List.getElem_toArray, List.getElem_cons_zero, List.getElem_cons_succ, Act.put, List.setIfInBounds_toArray, List.set_cons_zero, List.set_cons_succ])
      refine wpAnyH_take (i := 21) (v := .bool true) rfl (by kernel_rfl) (by kernel_rfl) (by kernel_rfl) (fun _ _ _ h => h) (.inl ⟨by rfl, fun _ _ => by kernel_rfl⟩) h7 ?_
      (try simp only [List.getElem_toArray, List.getElem_cons_zero, List.getElem_cons_succ, Act.put, List.setIfInBounds_toArray, List.set_cons_zero, List.set_cons_succ])
      refine wpAnyH_take (i := 22) (v := .agg (pgL A n c en tp)) rfl (by kernel_rfl) (by kernel_rfl) (by kernel_rfl) (fun _ _ _ h => h) (yieldsIf_loadP (by rfl) _ rfl rfl (fun _ q => plane_load (HC4.out.below q HC4.out.lt))) h7 ?_
      (try simp only [List.getElem_toArray, List.getElem_cons_zero, List.getElem_cons_succ, Act.put, List.setIfInBounds_toArray, List.set_cons_zero, List.set_cons_succ])
      refine wpAnyH_take (i := 24) (v := .agg (pgL A n c en tp)) rfl (by kernel_rfl) (by kernel_rfl) (by kernel_rfl) (fun _ _ _ h => h) (yieldsIf_loadP (by rfl) _ rfl rfl (fun _ q => plane_load (HC4.out.below q HC4.out.lt))) h7 ?_
      (try simp only [List.getElem_toArray, List.getElem_cons_zero, List.getElem_cons_succ, Act.put, List.setIfInBounds_toArray, List.set_cons_zero, List.set_cons_succ])
      refine wpAnyH_call 23 59 #[.agg (pgL A n c en tp)] _ (by kernel_rfl) (by rfl) (by kernel_rfl) (by kernel_rfl) (pl_whole ns.length A n c ns en tp _ (HG4.out.on h7 h7.size) (fun s => near_le ns s 0) HQ3.out) ?_
      rintro e Z8 ⟨rfl, bz⟩
      have h8 : Below w4.heap.size w4 Z8 := h7.trans (bz.mono h7.size)
      clear bz
      refine ⟨_, rfl, h8, ?_⟩
      clear h7
      (try simp only [List.getElem_toArray, List.getElem_cons_zero, List.getElem_cons_succ, Act.put, List.setIfInBounds_toArray, List.set_cons_zero, List.set_cons_succ])
      refine wpAnyH_call 25 60 #[.agg (pgL A n c en tp)] _ (by kernel_rfl) (by rfl) (by kernel_rfl) (by kernel_rfl) (rf_whole ns.length A n c ns en tp _ (HG4.out.on h8 h8.size) (fun s => near_le ns s 0) HQ3.out) ?_
      rintro e Z9 ⟨rfl, bz⟩
      have h9 : Below w4.heap.size w4 Z9 := h8.trans (bz.mono h8.size)
      clear bz
      refine ⟨_, rfl, h9, ?_⟩
      clear h8
      (try simp only [List.getElem_toArray, List.getElem_cons_zero, List.getElem_cons_succ, Act.put, List.setIfInBounds_toArray, List.set_cons_zero, List.set_cons_succ])
      refine wpAnyH_take (i := 26) (v := .bool true) rfl (by kernel_rfl) (by kernel_rfl) (by kernel_rfl) (fun _ _ _ h => h) (yieldsIf_eqlBr (by rfl) _ _ rfl rfl rfl (beq_self_eq_true _)) h9 ?_
      (try simp only [List.getElem_toArray, List.getElem_cons_zero, List.getElem_cons_succ, Act.put, List.setIfInBounds_toArray, List.set_cons_zero, List.set_cons_succ])
      refine wpAnyH_take (i := 27) (v := .bool true) rfl (by kernel_rfl) (by kernel_rfl) (by kernel_rfl) (fun _ _ _ h => h) (.inl ⟨by rfl, fun _ _ => by kernel_rfl⟩) h9 ?_
      (try simp only [List.getElem_toArray, List.getElem_cons_zero, List.getElem_cons_succ, Act.put, List.setIfInBounds_toArray, List.set_cons_zero, List.set_cons_succ])
      refine wpAnyH_take (i := 28) (v := .bool true) rfl (by kernel_rfl) (by kernel_rfl) (by kernel_rfl) (fun _ _ _ h => h) (.inl ⟨by rfl, fun _ _ => by kernel_rfl⟩) h9 ?_
      (try simp only [List.getElem_toArray, List.getElem_cons_zero, List.getElem_cons_succ, Act.put, List.setIfInBounds_toArray, List.set_cons_zero, List.set_cons_succ])
      refine wpAnyH_take (i := 29) (v := .int .i64 r) rfl (by kernel_rfl) (by kernel_rfl) (by kernel_rfl) (fun _ _ _ h => h) (.inl ⟨by rfl, fun _ _ => by kernel_rfl⟩) h9 ?_
      (try simp only [List.getElem_toArray, List.getElem_cons_zero, List.getElem_cons_succ, Act.put, List.setIfInBounds_toArray, List.set_cons_zero, List.set_cons_succ])
      refine wpAnyH_take (i := 30) (v := .int .i64 r) rfl (by kernel_rfl) (by kernel_rfl) (by kernel_rfl) (fun _ _ _ h => h) (.inl ⟨by rfl, fun _ _ => by kernel_rfl⟩) h9 ?_
      (try simp only [List.getElem_toArray, List.getElem_cons_zero, List.getElem_cons_succ, Act.put, List.setIfInBounds_toArray, List.set_cons_zero, List.set_cons_succ])
      refine wpAnyH_take (i := 31) (v := .bool true) rfl (by kernel_rfl) (by kernel_rfl) (by kernel_rfl) (fun _ _ _ h => h) (yieldsIf_eqlR (by rfl) _ _ rfl rfl rfl (beq_self_eq_true _)) h9 ?_
      (try simp only [List.getElem_toArray, List.getElem_cons_zero, List.getElem_cons_succ, Act.put, List.setIfInBounds_toArray, List.set_cons_zero, List.set_cons_succ])
      refine wpAnyH_take (i := 32) (v := .bool true) rfl (by kernel_rfl) (by kernel_rfl) (by kernel_rfl) (fun _ _ _ h => h) (.inl ⟨by rfl, fun _ _ => by kernel_rfl⟩) h9 ?_
      (try simp only [List.getElem_toArray, List.getElem_cons_zero, List.getElem_cons_succ, Act.put, List.setIfInBounds_toArray, List.set_cons_zero, List.set_cons_succ])
      refine wpAnyH_take (i := 33) (v := .bool true) rfl (by kernel_rfl) (by kernel_rfl) (by kernel_rfl) (fun _ _ _ h => h) (.inl ⟨by rfl, fun _ _ => by kernel_rfl⟩) h9 ?_
      (try simp only [List.getElem_toArray, List.getElem_cons_zero, List.getElem_cons_succ, Act.put, List.setIfInBounds_toArray, List.set_cons_zero, List.set_cons_succ])
      refine wpAnyH_take (i := 34) (v := .bool is) rfl (by kernel_rfl) (by kernel_rfl) (by kernel_rfl) (fun _ _ _ h => h) (.inl ⟨by rfl, fun _ _ => by kernel_rfl⟩) h9 ?_
      (try simp only [List.getElem_toArray, List.getElem_cons_zero, List.getElem_cons_succ, Act.put, List.setIfInBounds_toArray, List.set_cons_zero, List.set_cons_succ])
      refine wpAnyH_take (i := 35) (v := .bool is) rfl (by kernel_rfl) (by kernel_rfl) (by kernel_rfl) (fun _ _ _ h => h) (.inl ⟨by rfl, fun _ _ => by kernel_rfl⟩) h9 ?_
      (try simp only [List.getElem_toArray, List.getElem_cons_zero, List.getElem_cons_succ, Act.put, List.setIfInBounds_toArray, List.set_cons_zero, List.set_cons_succ])
      refine wpAnyH_take (i := 36) (v := .bool true) rfl (by kernel_rfl) (by kernel_rfl) (by kernel_rfl) (fun _ _ _ h => h) (yieldsIf_eqlBr (by rfl) _ _ rfl rfl rfl (beq_self_eq_true _)) h9 ?_
      (try simp only [List.getElem_toArray, List.getElem_cons_zero, List.getElem_cons_succ, Act.put, List.setIfInBounds_toArray, List.set_cons_zero, List.set_cons_succ])
      refine wpAnyH_take (i := 37) (v := .bool true) rfl (by kernel_rfl) (by kernel_rfl) (by kernel_rfl) (fun _ _ _ h => h) (.inl ⟨by rfl, fun _ _ => by kernel_rfl⟩) h9 ?_
      (try simp only [List.getElem_toArray, List.getElem_cons_zero, List.getElem_cons_succ, Act.put, List.setIfInBounds_toArray, List.set_cons_zero, List.set_cons_succ])
      refine wpAnyH_take (i := 38) (v := .bool true) rfl (by kernel_rfl) (by kernel_rfl) (by kernel_rfl) (fun _ _ _ h => h) (.inl ⟨by rfl, fun _ _ => by kernel_rfl⟩) h9 ?_
      (try simp only [List.getElem_toArray, List.getElem_cons_zero, List.getElem_cons_succ, Act.put, List.setIfInBounds_toArray, List.set_cons_zero, List.set_cons_succ])
      refine wpAnyH_done (by kernel_rfl) ?_ _
      have HBF := HB4.out.trans (h9.mono HB4.out.size)
      go_wp2_with fail
      go_ret
      exact ⟨rfl, HBF⟩
end Go.Proofs.Ytkhnnjeinpojkaa
