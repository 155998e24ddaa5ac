/- Neighbours as they lie around a vector; the last of them. Printed by genPeA.py. -/
import Derived.Test.YtpcbfoddlpgdjaaRkJ
namespace Go.Proofs.Ytpcbfoddlpgdjaa
open Go.RowKit
def spE (q : IS) (z : Int) (d : ItX) : Sp := ⟨dX q d, d.id, z⟩
/-- Places, with their items, as spots. -/
def spEs (q : IS) : List Int → List ItX → List Sp
  | z :: zs, d :: ds => spE q z d :: spEs q zs ds
  | _, _ => []
theorem spEs_len (q : IS) : ∀ (zs : List Int) (ds : List ItX), zs.length = ds.length → (spEs q zs ds).length = zs.length
  | [], [], _ => rfl
  | [], _ :: _, h => by cases h
  | _ :: _, [], h => by cases h
  | z :: zs, d :: ds, h => by show (spEs q zs ds).length + 1 = zs.length + 1; rw [spEs_len q zs ds (by simpa using h)]
theorem spEs_at (q : IS) : ∀ (zs : List Int) (ds : List ItX) (i : Nat) (z : Int) (d : ItX), zs[i]? = some z → ds[i]? = some d → (spEs q zs ds)[i]? = some (spE q z d)
  | [], _, i, _, _, h, _ => by simp at h
  | _ :: _, [], i, _, _, _, h => by simp at h
  | z :: zs, d :: ds, 0, _, _, h, h' => by injection h with h; injection h' with h'; subst h h'; rfl
  | z :: zs, d :: ds, i + 1, _, _, h, h' => spEs_at q zs ds i _ _ h h'
theorem make_spots (n : Nat) (hn : n ≤ 1048576) (w : World) : (Instr.makeSlice 25 (.int .i64 (n : Int)) (.int .i64 (n : Int))).run Try.prog w = .ok (.slice (some ⟨w.heap.size, 0, none⟩) n n) (w.alloc (.cells (madeCells #[.int .u64 0, .int .u64 0, .int .i64 0] (n * 3)) 35)) := by
  obtain ⟨i, hi, hz, hz1, hz2⟩ := info_parts info_spotK
  have := run_make (P := Try.prog) w 25 35 i _ Try.underlying25 hi hz .i64 .i64 n n (by omega) (by omega) (by rw [hz2]; omega) (by omega)
  rw [hz1] at this
  simpa [Value.cells] using this
def RetE (n : Nat) (l : List Sp) (w : World) (e : Ending) (w' : World) : Prop := ∃ g, e = .returned (.slice (some ⟨g, 0, none⟩) n n) ∧ SpAt w' w'.heap.size (some ⟨g, 0, none⟩) n l ∧ Below w.heap.size w w'
set_option maxRecDepth 100000 in
set_option maxHeartbeats 4000000 in
theorem ed_spots (q : IS) (LA : Option Addr) (n lc : Nat) (zs : List Int) (A : Option Addr) (c : Nat) (its : List ItX) (w : World) (hq : q.Vec w w.heap.size) (hz : Rd w w.heap.size LA n (zs.map (.int .i64))) (hI : Its w w.heap.size A n its) (hn : n ≤ 1048576) :
    Calls Try.prog 35 #[q.v, .slice LA n lc, .slice A n c] w (RetE n (spEs q zs its) w) := by
  have hm := make_spots n hn w
  obtain ⟨w1, hw1⟩ : ∃ x, w.alloc (.cells (madeCells #[.int .u64 0, .int .u64 0, .int .i64 0] (n * 3)) 35) = x := ⟨_, rfl⟩
  obtain ⟨g, hg⟩ : ∃ g, w.heap.size = g := ⟨_, rfl⟩
  have b1 : Below w.heap.size w w1 := by rw [← hw1]; exact (Below.refl _ w).alloc (Nat.le_refl _) _
  have k1 : Blk w1 w.heap.size 35 (madeCells #[.int .u64 0, .int .u64 0, .int .i64 0] (n * 3)) := by rw [← hw1]; exact Blk.new _ _ _
  have HH : Hid (HeldS w1 g n []) := ⟨_, by rw [← hg]; exact k1, size_madeCells _ _, fun i x hx => by simp at hx⟩
  have HZL : Hid (zs.length = n) := hz.lenI
  have HIL : Hid (its.length = n) := hI.len
  have HQ := Lib.hid hq
  have HZ := Lib.hid hz
  have HI0 := Lib.hid hI
  have HG1 : Hid (g < w1.heap.size) := by show g < _; rw [← hg]; exact k1.lt
  have HB1 := Lib.hid b1
  rw [hw1, hg] at hm
  rw [hg] at HQ HZ HI0 HB1
  clear hq hz hI k1 b1 hw1
  unfold RetE
  rw [hg]
  clear hg
  go_enter Try.func35, Try.ntmps35
  go_upto_region 2 with fail
  clear hm
  go_wp2_with fail
  go_loopw [16] (fun i wr => ∃ k : Nat, k ≤ n ∧ i = .int .i64 (k : Nat) ∧ Hid (HeldS wr g n ((spEs q zs its).take k)) ∧ Hid (Below g w wr) ∧ Hid (g < wr.heap.size)) (fun i _ => n - (intOf i).toNat)
  case atStart => exact ⟨0, Nat.zero_le _, rfl, HH.out, HB1.out, HG1.out⟩
  case round =>
    obtain ⟨k, hk, rfl, HS, HB, HG⟩ := hrel
    by_cases hlt : k < n
    · obtain ⟨b, o, d, rfl, hbl, hd, hv, hr⟩ := (HI0.out.below HB.out).at_ hlt
      obtain ⟨b2, o2, rfl, hb2, hc2⟩ := (HZ.out.below HB.out).atI hlt
      obtain ⟨z, hz⟩ : ∃ z, ig zs k = z := ⟨_, rfl⟩
      rw [hz] at hc2
      have hzk : zs[k]? = some z := by
        rw [← hz, ig, List.getD_eq_getElem?_getD, List.getElem?_eq_getElem (by have := HZL.out; omega)]
        rfl
      have HX : Hid ((spEs q zs its).take (k + 1) = (spEs q zs its).take k ++ [spE q z d]) := by
        show _ = _
        rw [List.take_add_one, spEs_at q zs its k z d hzk hd]
        rfl
      have HTL : Hid (((spEs q zs its).take k).length = k) := by
        show _ = _
        rw [List.length_take, spEs_len q zs its (by rw [HZL.out, HIL.out]), HZL.out]
        omega
      obtain ⟨xb, hxb⟩ : ∃ xb, wr.heap.size = xb := ⟨_, rfl⟩
      obtain ⟨W3, hW3⟩ : ∃ x, wr.alloc (.cells itx0 45) = x := ⟨_, rfl⟩
      obtain ⟨W4, hW4⟩ : ∃ W4, W3.setCells wr.heap.size 0 d.cells.toList = W4 := ⟨_, rfl⟩
      have SI := itx_put wr d
      have bx := itx_blk wr d
      have b4 := put_bel wr (.cells itx0 45) d.cells.toList
      have b3 : Below wr.heap.size wr W3 := by rw [← hW3]; exact (Below.refl _ wr).alloc (Nat.le_refl _) _
      have LI := itx_load (w := W3) (fun j v hv => by rw [b3.cell (p := ⟨b, _, none⟩) (Nat.lt_trans hbl HG.out)]; exact hr j v hv)
      rw [hW3] at SI bx b4
      rw [hW4] at SI bx b4
      have HB4 : Hid (Below g w W4) := HB.out.trans (b4.mono (Nat.le_of_lt HG.out))
      have HI : Hid (Blk W4 xb 45 d.cells) := by show Blk _ _ _ _; rw [← hxb]; exact bx
      have HNE : Hid (¬ (xb = g)) := by have := HG.out; show ¬ _; omega
      have HS4 : Hid (HeldS W4.drew g n ((spEs q zs its).take k)) := HS.out.tch (w' := W4.drew) (below_drewN b4 1) HG.out
      have SR := Lib.hid (HS4.out.store (spE q z d) hlt)
      have HS5 : Hid (HeldS (W4.drew.setCells g (k * 3) (spC (spE q z d)).toList) g n ((spEs q zs its).take (k + 1))) := by
        show HeldS _ _ _ _
        rw [HX.out]
        exact HS4.out.put HTL.out hlt
      obtain ⟨V, hV⟩ : ∃ V, W4.drew.setCells g (k * 3) (spC (spE q z d)).toList = V := ⟨_, rfl⟩
      rw [hV] at SR HS5
      have HTT : Hid (Tch (fun k => k = g) W4 V) := by show Tch _ _ _; rw [← hV]; exact Tch.setCells (S := fun k => k = g) rfl _ _ _ ((Tch.refl _ W4).drewN 1)
      have HG4 : Hid (g < W4.heap.size) := Nat.lt_of_lt_of_le HG.out b4.size
      have HD : Hid (∀ W' : World, Tch (fun k => k = g) W4 W' → Calls Try.prog 25 #[q.v, d.vec.v] W' fun e w' => e = .returned (.int .u64 (dX q d)) ∧ W' = w') := by
        intro W' hT
        have hb' : Below g w W' := HB4.out.trans (hT.below (Nat.le_of_lt HG4.out) (fun k hk => by omega))
        exact dist_c q d.vec W' g (HQ.out.below hb') ((HI0.out.2 d (List.mem_of_getElem? hd)).below hb')
      have HLT := Lib.hid hlt
      clear hd hr hv b4 b3 bx hW4 hV hbl hb2 hzk hz
      rw [hxb] at SI
      have hlt' := HLT.out
      unfold itx0 at hW3
      go_upto_region 6 with fail
      (try rw [hxb])
      (try rw [hW3])
      clear hW3
      go_upto_region 8 with (first | refine wpList_loadE LI _ rfl rfl rfl ?_ | refine wpList_storeE SI _ _ rfl rfl rfl rfl ?_)
      clear LI SI hc2
      refine wp_region_held_drew (S := fun w' => Tch (fun k => k = g) W4 w') (by kernel_rfl) ((Tch.refl _ W4).drewN 1) (fun hH => ?_)
      refine wpAnyH_take (i := 0) (v := .slice (some ⟨g, 0, none⟩) n n) rfl (by kernel_rfl) (by kernel_rfl) (by kernel_rfl) (fun _ _ _ h => h) (.inl ⟨by rfl, fun _ _ => by kernel_rfl⟩) hH ?_
      (try simp only [List.getElem_toArray, List.getElem_cons_zero, Act.put, List.setIfInBounds_toArray, List.set_cons_zero, List.set_cons_succ])
      refine wpAnyH_take (i := 1) (v := .int .i64 ((k : Nat) : Int)) rfl (by kernel_rfl) (by kernel_rfl) (by kernel_rfl) (fun _ _ _ h => h) (.inl ⟨by rfl, fun _ _ => by kernel_rfl⟩) hH ?_
      (try simp only [List.getElem_toArray, List.getElem_cons_zero, List.getElem_cons_succ, Act.put, List.setIfInBounds_toArray, List.set_cons_zero, List.set_cons_succ])
      refine wpAnyH_take (i := 2) (v := q.v) rfl (by kernel_rfl) (by kernel_rfl) (by kernel_rfl) (fun _ _ _ h => h) (.inl ⟨by rfl, fun _ _ => by kernel_rfl⟩) hH ?_
      (try simp only [List.getElem_toArray, List.getElem_cons_zero, List.getElem_cons_succ, Act.put, List.setIfInBounds_toArray, List.set_cons_zero, List.set_cons_succ])
      refine wpAnyH_take (i := 3) (v := .pointer (some ⟨xb, 1, none⟩)) rfl (by kernel_rfl) (by kernel_rfl) (by kernel_rfl) (fun _ _ _ h => h) (.inl ⟨by rfl, fun _ _ => by kernel_rfl⟩) hH ?_
      (try simp only [List.getElem_toArray, List.getElem_cons_zero, List.getElem_cons_succ, Act.put, List.setIfInBounds_toArray, List.set_cons_zero, List.set_cons_succ])
      refine wpAnyH_take (i := 4) (v := d.vec.v) rfl (by kernel_rfl) (by kernel_rfl) (by kernel_rfl) (fun _ _ _ h => h) (yieldsIf_loadP (by rfl) _ rfl rfl (fun _ t => load_i32sK ((HI.out.tch t HNE.out).cell 1))) hH ?_
      (try simp only [List.getElem_toArray, List.getElem_cons_zero, List.getElem_cons_succ, Act.put, List.setIfInBounds_toArray, List.set_cons_zero, List.set_cons_succ])
      refine wpAnyH_take (i := 6) (v := .pointer (some ⟨xb, 0, none⟩)) rfl (by kernel_rfl) (by kernel_rfl) (by kernel_rfl) (fun _ _ _ h => h) (.inl ⟨by rfl, fun _ _ => by kernel_rfl⟩) hH ?_
      (try simp only [List.getElem_toArray, List.getElem_cons_zero, List.getElem_cons_succ, Act.put, List.setIfInBounds_toArray, List.set_cons_zero, List.set_cons_succ])
      refine wpAnyH_take (i := 7) (v := .int .u64 d.id) rfl (by kernel_rfl) (by kernel_rfl) (by kernel_rfl) (fun _ _ _ h => h) (yieldsIf_loadP (by rfl) _ rfl rfl (fun _ t => load_u64K ((HI.out.tch t HNE.out).cell 0))) hH ?_
      (try simp only [List.getElem_toArray, List.getElem_cons_zero, List.getElem_cons_succ, Act.put, List.setIfInBounds_toArray, List.set_cons_zero, List.set_cons_succ])
      refine wpAnyH_take (i := 9) (v := .int .i64 z) rfl (by kernel_rfl) (by kernel_rfl) (by kernel_rfl) (fun _ _ _ h => h) (.inl ⟨by rfl, fun _ _ => by kernel_rfl⟩) hH ?_
      (try simp only [List.getElem_toArray, List.getElem_cons_zero, List.getElem_cons_succ, Act.put, List.setIfInBounds_toArray, List.set_cons_zero, List.set_cons_succ])
      refine wpAnyH_call 5 25 #[q.v, d.vec.v] _ (by kernel_rfl) (by rfl) (by kernel_rfl) (by kernel_rfl) (HD.out _ hH) ?_
      rintro e Z1 ⟨rfl, rfl⟩
      refine ⟨_, rfl, hH, ?_⟩
      (try simp only [List.getElem_toArray, List.getElem_cons_zero, List.getElem_cons_succ, Act.put, List.setIfInBounds_toArray, List.set_cons_zero, List.set_cons_succ])
      refine wpAnyH_take (i := 8) (v := hitV (spE q z d)) rfl (by kernel_rfl) (by kernel_rfl) (by kernel_rfl) (fun _ _ _ h => h) (.inl ⟨by rfl, fun _ _ => by kernel_rfl⟩) hH ?_
      (try simp only [List.getElem_toArray, List.getElem_cons_zero, List.getElem_cons_succ, Act.put, List.setIfInBounds_toArray, List.set_cons_zero, List.set_cons_succ])
      refine wpAnyH_take (i := 10) (v := spV (spE q z d)) rfl (by kernel_rfl) (by kernel_rfl) (by kernel_rfl) (fun _ _ _ h => h) (.inl ⟨by rfl, fun _ _ => by kernel_rfl⟩) hH ?_
      (try simp only [List.getElem_toArray, List.getElem_cons_zero, List.getElem_cons_succ, Act.put, List.setIfInBounds_toArray, List.set_cons_zero, List.set_cons_succ])
      refine wpAnyH_take (i := 11) (v := .pointer (some ⟨g, 0 + k * 3, none⟩)) rfl (by kernel_rfl) (by kernel_rfl) (by kernel_rfl) (fun _ _ _ h => h) (yieldsIf_indexS Try.underlying25 sizeSpE (by rfl) _ _ rfl rfl rfl HLT.out) hH ?_
      (try simp only [List.getElem_toArray, List.getElem_cons_zero, List.getElem_cons_succ, Act.put, List.setIfInBounds_toArray, List.set_cons_zero, List.set_cons_succ])
      refine wpAnyH_store 12 _ _ _ (by kernel_rfl) (by rfl) (by kernel_rfl) (by rfl) (by rfl) (by rfl) (SR.out) (HTT.out) ?_
      (try simp only [List.getElem_toArray, List.getElem_cons_zero, List.getElem_cons_succ, Act.put])
      refine wpAnyH_done (by kernel_rfl) ?_ _
      go_wp2_with fail
      go_roundw
      case rel => exact ⟨k + 1, by omega, by go_num, HS5.out, HB4.out.trans (HTT.out.below (Nat.le_of_lt HG4.out) (fun k hk => by omega)), Nat.lt_of_lt_of_le HG4.out HTT.out.size⟩
      case measure => simp [intOf]; omega
    · obtain rfl : k = n := by omega
      go_wp2_with fail
      go_ret
      have h1 := HS.out
      have hle : (spEs q zs its).length = k := by rw [spEs_len q zs its (by rw [HZL.out, HIL.out]), HZL.out]
      rw [← hle, List.take_length, hle] at h1
      exact ⟨g, rfl, h1.at_ hle, HB.out⟩
set_option maxRecDepth 100000 in
set_option maxHeartbeats 4000000 in
theorem ed_far (q : IS) (LA : Option Addr) (n lc : Nat) (zs : List Int) (A : Option Addr) (c : Nat) (its : List ItX) (w : World) (hq : q.Vec w w.heap.size) (hz : Rd w w.heap.size LA n (zs.map (.int .i64))) (hI : Its w w.heap.size A n its) (hn : n ≤ 1048576) (h0 : 0 < n) :
    Calls Try.prog 19 #[q.v, .slice LA n lc, .slice A n c] w (fun e w' => ∃ x, (sortSp (spEs q zs its))[n - 1]? = some x ∧ e = .returned (.tuple #[spV x, .bool true]) ∧ Below w.heap.size w w') := by
  obtain ⟨w1, hw1⟩ : ∃ x, w.alloc (.cells spZ0 35) = x := ⟨_, rfl⟩
  have b1 : Below w.heap.size w w1 := by rw [← hw1]; exact (Below.refl _ w).alloc (Nat.le_refl _) _
  have k1 : Blk w1 w.heap.size 35 spZ0 := by rw [← hw1]; exact Blk.new _ _ _
  have HS := Lib.hid (ed_spots q LA n lc zs A c its w1 ((hq.below b1).more b1.size) (Rd.more (Rd.below hz b1) b1.size) (hI.on (Nat.le_refl _) b1) hn)
  have hle : (spEs q zs its).length = n := by rw [spEs_len q zs its (by rw [hz.lenI, hI.len]), hz.lenI]
  obtain ⟨l, hl⟩ : ∃ l, spEs q zs its = l := ⟨_, rfl⟩
  rw [hl] at HS hle ⊢
  have HLE := Lib.hid hle
  have HN : Hid (n ≤ 1048576 ∧ 0 < n) := ⟨hn, h0⟩
  have HB1 := Lib.hid b1
  have HK1 := Lib.hid k1
  have tz : decide (n = 0) = false := decide_eq_false (by omega)
  clear hq hz hI hl hle k1 b1
  unfold spZ0 at hw1
  go_enter Try.func19, Try.ntmps19
  go_upto_region 1 with fail
  (try rw [hw1])
  clear hw1
  go_upto_region 4 with (first
    | (go_at_call 35; (with_reducible refine HS.out.mono ?_); rintro e w2 ⟨g, rfl, hs, hb⟩; have HB2 := Lib.hid hb; have HC := Lib.hid (rank_sort (some ⟨g, 0, none⟩) n n l w2 hs (fun e => by cases e) (by omega)); clear hs hb)
    | (go_at_call 31; (with_reducible refine HC.out.mono ?_); rintro e w3 ⟨A3, n3, c3, rfl, hs, hc3, hA3, hne3, hb⟩; have HS3 := Lib.hid hs; have HB3 := Lib.hid hb; obtain rfl : n = n3 := (by have := hs.len; rw [sortSp_len] at this; have h5 := HLE.out; omega); clear hs hb hc3 hA3 hne3))
  clear HS HC
  have hlt : n - 1 < n := by omega
  have h0' := h0
  obtain ⟨b, o, c', e3, hbl, hx, _, hr⟩ := Rs.at_ HS3.out hlt
  subst e3
  rw [List.getElem?_map] at hx
  obtain ⟨x, hx2, hxe⟩ := Option.map_eq_some_iff.1 hx
  rw [← hxe] at hr
  have HX := Lib.hid hx2
  have LX := sp_loadB hr
  have HB13 : Hid (Below w1.heap.size w1 w3) := HB2.out.trans (HB3.out.mono HB2.out.size)
  have k3 := HK1.out.below HB13.out HK1.out.lt
  have SR := row_store k3 (spC x) rfl spotTK (by simp [spC, Value.oneCell'])
  obtain ⟨V, hV⟩ : ∃ V, w3.setCells w.heap.size 0 (spC x).toList = V := ⟨_, rfl⟩
  rw [hV] at SR
  have HV : Hid (Blk V w.heap.size 35 (spC x)) := by show Blk _ _ _ _; rw [← hV]; exact k3.put _ rfl
  have HBV : Hid (Below w.heap.size w V) := by
    show Below _ _ _
    rw [← hV]
    exact HB1.out.trans ((HB13.out.mono HB1.out.size).trans ((Tch.setCells (S := fun k => k = w.heap.size) rfl _ _ w3 (Tch.refl _ w3)).below (Nat.le_trans HB1.out.size HB13.out.size) (fun k hk => Nat.le_of_eq hk.symm)))
  clear k3 hV hr hbl hx hx2 hxe
  have e1 : wrap64 ((n : Int) - 1) = ((n - 1 : Nat) : Int) := by unfold wrap64; omega
  have SR' : (Instr.storeAt 35 (.pointer (some ⟨w.heap.size, 0, none⟩)) (spV x)).run Try.prog w3 = .ok () V := SR
  clear SR
  go_wp2_with (first | refine wpList_loadE LX _ rfl rfl rfl ?_ | refine wpList_storeE SR' _ _ rfl rfl rfl rfl ?_)
  refine bodyPost_ret (v := .tuple #[spV x, .bool true]) ?_ rfl ⟨x, HX.out, rfl, HBV.out⟩
  exact results_row11K (P := Try.prog) Try.results19 _ rfl HV.out Try.underlying35 rfl spotTK
end Go.Proofs.Ytpcbfoddlpgdjaa
