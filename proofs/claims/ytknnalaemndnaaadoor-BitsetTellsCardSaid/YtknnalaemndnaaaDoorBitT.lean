/- Walks of the reference of bitset: sets put together. -/
import Derived.Test.YtknnalaemndnaaaDoorBitS
namespace Go.Proofs.YtknnalaemndnaaaDoor
open Go.RowKit
theorem inL_list {ws : List Int} {n : Nat} (hn : n < 4096) : inL (listE ws) n = hasB ws n := by
  unfold inL
  cases h : hasB ws n with
  | true => exact decide_eq_true (mem_lst.2 ⟨n, rfl, hn, h⟩)
  | false =>
    refine decide_eq_false fun hm => ?_
    obtain ⟨y, hy, _, hp⟩ := mem_lst.1 hm
    have : y = n := by omega
    subst this
    rw [h] at hp
    cases hp
theorem inL_app (a b : List Int) (n : Nat) : inL (a ++ b) n = (inL a n || inL b n) := by
  unfold inL; rw [← Bool.decide_or, decide_eq_decide, List.mem_append]
theorem inL_filter (a : List Int) (f : Int → Bool) (n : Nat) : inL (a.filter f) n = (inL a n && f n) := by
  unfold inL
  cases h : f n with
  | true => rw [Bool.and_true, decide_eq_decide, List.mem_filter]; simp [h]
  | false => rw [Bool.and_false]; exact decide_eq_false fun hm => by have := (List.mem_filter.1 hm).2; rw [h] at this; cases this
theorem hasE_nat {ws : List Int} {n : Nat} (hn : n < 4096) : hasE ws n = hasB ws n := by unfold hasE; rw [Int.toNat_natCast]; simp; omega
theorem listE_len (ws : List Int) : (listE ws).length ≤ 4096 := lst_len _ _
theorem listE_bd (ws : List Int) {k : Nat} (h : k < (listE ws).length) : 0 ≤ ig (listE ws) k ∧ ig (listE ws) k < 4096 := by
  obtain ⟨y, h1, h2, _⟩ := lst_bd h
  have h1' : ig (listE ws) k = y := h1
  rw [h1']; omega
set_option maxRecDepth 100000 in
set_option maxHeartbeats 1000000 in
theorem ref_union (A : Option Addr) (m c : Nat) (xs : List Int) (B : Option Addr) (m' c' : Nat) (ys : List Int) (w : World) (hr : Rd w w.heap.size A m (xs.map (.int .u64))) (hr' : Rd w w.heap.size B m' (ys.map (.int .u64)))
    (hw : ∀ z ∈ xs, Word z) (hw' : ∀ z ∈ ys, Word z) (hm : m ≤ 9223372036854775807) (hm' : m' ≤ 9223372036854775807) :
    Calls Tryd.prog 19 #[.slice A m c, .slice B m' c'] w (RetC (fun n => hasB xs n || hasB ys n) w) := by
  have h1 := Lib.hid (ref_list A m c xs w hr hw hm)
  have HR := Lib.hid hr'
  have l1 := listE_len xs
  have l2 := listE_len ys
  clear hr hr'
  go_enter Tryd.func19, Tryd.ntmps19
  go_wp2_with fail
  refine h1.out.mono ?_
  rintro e w1 ⟨A1, c1, rfl, hn1, hc1, hown1, hb1⟩
  have HO1 := Lib.hid hown1
  have hs1 := hb1.size
  clear hown1 h1 hn1
  go_wp2_with fail
  refine (ref_list B m' c' ys w1 ((HR.out.below hb1).more hb1.size) hw' hm').mono ?_
  rintro e w2 ⟨A2, c2, rfl, hn2, hc2, hown2, hb2⟩
  have hs2 := hb2.size
  have B2 : Below w.heap.size w w2 := hb1.trans (hb2.mono hb1.size)
  have HK : Hid (w2.ownsRow w.heap.size 3 1 (.slice A1 (listE xs).length c1) (listE xs).length ((listE xs).map (.int .i64))) := HO1.out.kept (only_of_below hb2 none) (by
    cases h : (Value.slice A1 (listE xs).length c1).ownBlock with
    | none => exact Or.inl rfl
    | some k => exact Or.inr (by simp))
  have fin : ∀ n, n < 4096 → inL (listE xs ++ listE ys) n = (hasB xs n || hasB ys n) := fun n hn => by rw [inL_app, inL_list hn, inL_list hn]
  have HF := Lib.hid fin
  obtain ⟨lx, hlx⟩ : ∃ lx, listE xs = lx := ⟨_, rfl⟩
  obtain ⟨ly, hly⟩ : ∃ ly, listE ys = ly := ⟨_, rfl⟩
  rw [hlx] at HK HF l1 hc1 ⊢
  rw [hly] at HF l2 hc2 hown2 hn2 ⊢
  have hyl := hown2
  clear fin hlx hly HO1 hb1 hb2
  by_cases h0 : ly.length = 0
  · obtain ⟨rfl, rfl⟩ := hn2 h0
    have hnil : ly = [] := List.length_eq_zero_iff.1 h0
    subst hnil
    obtain ⟨i0, hi, _⟩ := info_parts info_int
    have hk := HK.out
    have hlen : ([] : List Int).length = 0 := rfl
    have hk' := hk
    clear hn2 h0 hown2 hyl hc2
    rw [hlen]
    go_wp2_with (at_builtin; refine wpList_append_own_none rfl (.tmp 6) (.tmp 8) _ rfl w.heap.size 3 i0 1 Tryd.underlying23 hi _ _ _ rfl hk' rfl ?_)
    refine (ref_of A1 lx.length c1 lx w2 (Rd.of_own hk) (by omega)).mono ?_
    rintro e w3 ⟨ws, A3, c3, rfl, g1, g2, g3, g4, g5⟩
    go_wp2_with fail
    go_ret
    exact ⟨ws, A3, c3, rfl, g1, g2, canon_congr g3 (fun n hn => by rw [← HF.out n hn, List.append_nil]), g4, B2.trans (g5.mono B2.size)⟩
  · have hk := HK.out
    obtain ⟨g, cap, hv, hg1, hg2⟩ := hown2.form (by omega)
    have hA : A2 = some ⟨g, 0, none⟩ := by injection hv
    subst hA
    have hcells : ∀ j u, (ly.map (Value.int .i64))[j]? = some u → w2.cell? ((⟨g, 0, none⟩ : Addr).add j) = some u := fun j u hu => hown2.cells rfl j u hu
    obtain ⟨i0, hi, hz0, hz1, hz2⟩ := info_parts info_int
    have hpos : 0 < ly.length := by omega
    have hbase : w.heap.size ≤ w2.heap.size := by omega
    clear hn2 h0 hown2 hyl hv hc2
    go_wp2_with (at_builtin; refine wpList_append_lies w2 rfl (.tmp 6) (.tmp 8) _ rfl w.heap.size 3 i0 (.int .i64 0) 1 8 Tryd.underlying23 hi hz0 hz1 hz2 rfl (by decide) _ _ _ rfl hk ⟨g, 0, none⟩ ly.length _ (ly.map (Value.int .i64)) rfl (by simp) hcells (by simp [Value.oneCell']) hpos (by unfold maxLen; omega) (by omega) hbase _ rfl ?_; intro g3 c3 w3 hown3 hg3 _ _)
    have B3 : Below w.heap.size w w3 := B2.grown hg3 hbase fun k hk' => (hk.lt k hk').1
    have hlen : (lx ++ ly).length = lx.length + ly.length := List.length_append
    have hrd := Rd.of_own hown3
    rw [← List.map_append] at hrd
    refine (ref_of (some ⟨g3, 0, none⟩) _ c3 (lx ++ ly) w3 hrd (by omega)).mono ?_
    rintro e w4 ⟨ws, A4, c4, rfl, q1, q2, q3, q4, q5⟩
    clear hrd hlen hcells
    go_wp2_with fail
    go_ret
    exact ⟨ws, A4, c4, rfl, q1, q2, canon_congr q3 HF.out, q4, B3.trans (q5.mono B3.size)⟩
set_option maxRecDepth 100000 in
set_option maxHeartbeats 2000000 in
theorem ref_meet (A : Option Addr) (m c : Nat) (xs : List Int) (B : Option Addr) (m' c' : Nat) (ys : List Int) (w : World) (hr : Rd w w.heap.size A m (xs.map (.int .u64))) (hr' : Rd w w.heap.size B m' (ys.map (.int .u64)))
    (hw : ∀ z ∈ xs, Word z) (hw' : ∀ z ∈ ys, Word z) (hm : m ≤ 9223372036854775807) (hm' : m' ≤ 9223372036854775807) :
    Calls Tryd.prog 21 #[.slice A m c, .slice B m' c'] w (RetC (fun n => hasB xs n && hasB ys n) w) := by
  have h1 := Lib.hid (ref_list A m c xs w hr hw hm)
  have HR := Lib.hid hr'
  have l1 := listE_len xs
  have fin : ∀ n, n < 4096 → inL ((listE xs).filter fun z => hasE ys z) n = (hasB xs n && hasB ys n) := fun n hn => by rw [inL_filter, inL_list hn, hasE_nat hn]
  have HF := Lib.hid fin
  have HBD : Hid (∀ k, k < (listE xs).length → 0 ≤ ig (listE xs) k ∧ ig (listE xs) k < 4096) := fun k hk => listE_bd xs hk
  obtain ⟨lx, hlx⟩ : ∃ lx, listE xs = lx := ⟨_, rfl⟩
  rw [hlx] at h1 HF HBD l1
  obtain ⟨M, hM⟩ : ∃ M, lx.length = M := ⟨_, rfl⟩
  rw [hM] at l1 HBD
  have HM := Lib.hid hM
  clear hr hr' fin hlx hM
  go_enter Tryd.func21, Tryd.ntmps21
  go_wp2_with fail
  refine h1.out.mono ?_
  intro e w1 hret
  obtain ⟨⟨A1, c1, rfl, _, hrd⟩, hb1⟩ := hret.rd
  rw [HM.out] at hrd ⊢
  have HL := Lib.hid hrd
  have HB1 := Lib.hid hb1
  clear h1 hret hrd hb1
  go_wp2_with fail
  go_loopw [5, 7, 11] (fun v _ i wr => ∃ (j n : Nat) (B : Option Addr) (d : Nat) (cs : List Int), j ≤ M ∧ n ≤ j ∧ i = .int .i64 j ∧ v = .slice B n d ∧ Hid (cs = (lx.take j).filter fun z => hasE ys z) ∧ Hid (wr.ownsRow w1.heap.size 3 1 (.slice B n d) n (cs.map (.int .i64))) ∧ Hid (Below w1.heap.size w1 wr)) (fun _ _ i _ => M - (intOf i).toNat)
  case atStart => exact ⟨0, 0, none, 0, [], Nat.zero_le _, Nat.le_refl _, rfl, rfl, rfl, World.ownsRow_nil _ _ _ _, Below.refl _ _⟩
  case round =>
    obtain ⟨j, n, D, d, cs, hj, hn, rfl, rfl, hcs, hown, hb⟩ := hrel
    have hown' := hown.out
    have hsz := hb.out.size
    by_cases hlt : j < M
    · obtain ⟨b, o, rfl, hb0, hc0⟩ := HL.out.atI hlt
      have hc := (hb.out.cell (p := ⟨b, o + j, none⟩) hb0).trans hc0
      obtain ⟨z1, z2⟩ := HBD.out j hlt
      have hhas := ref_has B m' c' ys _ (ig lx j) (by omega) hm' wr (HR.out.below (HB1.out.trans (hb.out.mono HB1.out.size))) hw'
      have hst : (lx.take (j + 1)).filter (fun z => hasE ys z) = (lx.take j).filter (fun z => hasE ys z) ++ if (hasE ys (ig lx j)) then [ig lx j] else [] := by
        rw [take_step (by rw [HM.out]; exact hlt), List.filter_append]
        congr 1
        by_cases h : (hasE ys (ig lx j)) = true
        · rw [if_pos h]; (try simp at h); simp [List.filter, h]
        · rw [if_neg h]; simp at h; simp [List.filter, h]
      obtain ⟨z, hz⟩ : ∃ z, ig lx j = z := ⟨_, rfl⟩
      rw [hz] at hc hhas hst z1 z2
      cases hh : hasE ys z with
      | true =>
        rw [hh] at hhas hst
        have HH := Lib.hid hhas
        have HS : Hid (cs ++ [z] = (lx.take (j + 1)).filter fun z => hasE ys z) := by show _ = _; rw [hst, hcs.out]; rfl
        clear hh hhas hst hz hc0
        go_wp2_with (first
          | (go_at_call 10; refine HH.out.mono ?_; rintro e w' ⟨rfl, rfl⟩)
          | (at_builtin; refine wpList_push rfl (.tmp 18) (.tmp 20) _ rfl w1.heap.size 3 .i64 8 (by decide) Tryd.underlying23 info_int wr D n d cs _ rfl hown' rfl (by omega) hsz ?_; intro g' c' w' hown2 hb2))
        have HB2 := Lib.hid (hb.out.trans hb2)
        have HO2 := Lib.hid hown2
        go_roundw
        case rel => exact ⟨j + 1, n + 1, some ⟨g', 0, none⟩, _, _, by omega, by omega, by go_num, rfl, HS, HO2, HB2⟩
        case measure => simp [intOf]; omega
      | false =>
        rw [hh] at hhas hst
        have HH := Lib.hid hhas
        have HS : Hid (cs = (lx.take (j + 1)).filter fun z => hasE ys z) := by show _ = _; rw [hst, hcs.out]; simp
        clear hh hhas hst hz hc0
        go_wp2_with (go_at_call 10; refine HH.out.mono ?_; rintro e w' ⟨rfl, rfl⟩)
        go_roundw
        case rel => exact ⟨j + 1, n, D, d, _, by omega, by omega, by go_num, rfl, HS, hown, hb⟩
        case measure => simp [intOf]; omega
    · obtain rfl : j = M := by omega
      have hall : lx.take j = lx := by rw [← HM.out, List.take_length]
      have hc1 := hcs.out
      rw [hall] at hc1
      have hrd := Rd.of_own hown'
      have B2 : Below w.heap.size w wr := HB1.out.trans (hb.out.mono HB1.out.size)
      rw [hc1] at hrd
      clear hall hc1
      go_wp2_with fail
      refine (ref_of D n d _ wr hrd (by omega)).mono ?_
      rintro e w3 ⟨ws, A3, c3, rfl, q1, q2, q3, q4, q5⟩
      go_wp2_with fail
      go_ret
      exact ⟨ws, A3, c3, rfl, q1, q2, canon_congr q3 HF.out, q4, B2.trans (q5.mono B2.size)⟩
set_option maxRecDepth 100000 in
set_option maxHeartbeats 2000000 in
theorem ref_less (A : Option Addr) (m c : Nat) (xs : List Int) (B : Option Addr) (m' c' : Nat) (ys : List Int) (w : World) (hr : Rd w w.heap.size A m (xs.map (.int .u64))) (hr' : Rd w w.heap.size B m' (ys.map (.int .u64)))
    (hw : ∀ z ∈ xs, Word z) (hw' : ∀ z ∈ ys, Word z) (hm : m ≤ 9223372036854775807) (hm' : m' ≤ 9223372036854775807) :
    Calls Tryd.prog 23 #[.slice A m c, .slice B m' c'] w (RetC (fun n => hasB xs n && !hasB ys n) w) := by
  have h1 := Lib.hid (ref_list A m c xs w hr hw hm)
  have HR := Lib.hid hr'
  have l1 := listE_len xs
  have fin : ∀ n, n < 4096 → inL ((listE xs).filter fun z => !hasE ys z) n = (hasB xs n && !hasB ys n) := fun n hn => by rw [inL_filter, inL_list hn, hasE_nat hn]
  have HF := Lib.hid fin
  have HBD : Hid (∀ k, k < (listE xs).length → 0 ≤ ig (listE xs) k ∧ ig (listE xs) k < 4096) := fun k hk => listE_bd xs hk
  obtain ⟨lx, hlx⟩ : ∃ lx, listE xs = lx := ⟨_, rfl⟩
  rw [hlx] at h1 HF HBD l1
  obtain ⟨M, hM⟩ : ∃ M, lx.length = M := ⟨_, rfl⟩
  rw [hM] at l1 HBD
  have HM := Lib.hid hM
  clear hr hr' fin hlx hM
  go_enter Tryd.func23, Tryd.ntmps23
  go_wp2_with fail
  refine h1.out.mono ?_
  intro e w1 hret
  obtain ⟨⟨A1, c1, rfl, _, hrd⟩, hb1⟩ := hret.rd
  rw [HM.out] at hrd ⊢
  have HL := Lib.hid hrd
  have HB1 := Lib.hid hb1
  clear h1 hret hrd hb1
  go_wp2_with fail
  go_loopw [5, 7, 11] (fun v _ i wr => ∃ (j n : Nat) (B : Option Addr) (d : Nat) (cs : List Int), j ≤ M ∧ n ≤ j ∧ i = .int .i64 j ∧ v = .slice B n d ∧ Hid (cs = (lx.take j).filter fun z => !hasE ys z) ∧ Hid (wr.ownsRow w1.heap.size 3 1 (.slice B n d) n (cs.map (.int .i64))) ∧ Hid (Below w1.heap.size w1 wr)) (fun _ _ i _ => M - (intOf i).toNat)
  case atStart => exact ⟨0, 0, none, 0, [], Nat.zero_le _, Nat.le_refl _, rfl, rfl, rfl, World.ownsRow_nil _ _ _ _, Below.refl _ _⟩
  case round =>
    obtain ⟨j, n, D, d, cs, hj, hn, rfl, rfl, hcs, hown, hb⟩ := hrel
    have hown' := hown.out
    have hsz := hb.out.size
    by_cases hlt : j < M
    · obtain ⟨b, o, rfl, hb0, hc0⟩ := HL.out.atI hlt
      have hc := (hb.out.cell (p := ⟨b, o + j, none⟩) hb0).trans hc0
      obtain ⟨z1, z2⟩ := HBD.out j hlt
      have hhas := ref_has B m' c' ys _ (ig lx j) (by omega) hm' wr (HR.out.below (HB1.out.trans (hb.out.mono HB1.out.size))) hw'
      have hst : (lx.take (j + 1)).filter (fun z => !hasE ys z) = (lx.take j).filter (fun z => !hasE ys z) ++ if (!hasE ys (ig lx j)) then [ig lx j] else [] := by
        rw [take_step (by rw [HM.out]; exact hlt), List.filter_append]
        congr 1
        by_cases h : (!hasE ys (ig lx j)) = true
        · rw [if_pos h]; (try simp at h); simp [List.filter, h]
        · rw [if_neg h]; simp at h; simp [List.filter, h]
      obtain ⟨z, hz⟩ : ∃ z, ig lx j = z := ⟨_, rfl⟩
      rw [hz] at hc hhas hst z1 z2
      cases hh : hasE ys z with
      | false =>
        rw [hh] at hhas hst
        have HH := Lib.hid hhas
        have HS : Hid (cs ++ [z] = (lx.take (j + 1)).filter fun z => !hasE ys z) := by show _ = _; rw [hst, hcs.out]; rfl
        clear hh hhas hst hz hc0
        go_wp2_with (first
          | (go_at_call 10; refine HH.out.mono ?_; rintro e w' ⟨rfl, rfl⟩)
          | (at_builtin; refine wpList_push rfl (.tmp 19) (.tmp 21) _ rfl w1.heap.size 3 .i64 8 (by decide) Tryd.underlying23 info_int wr D n d cs _ rfl hown' rfl (by omega) hsz ?_; intro g' c' w' hown2 hb2))
        have HB2 := Lib.hid (hb.out.trans hb2)
        have HO2 := Lib.hid hown2
        go_roundw
        case rel => exact ⟨j + 1, n + 1, some ⟨g', 0, none⟩, _, _, by omega, by omega, by go_num, rfl, HS, HO2, HB2⟩
        case measure => simp [intOf]; omega
      | true =>
        rw [hh] at hhas hst
        have HH := Lib.hid hhas
        have HS : Hid (cs = (lx.take (j + 1)).filter fun z => !hasE ys z) := by show _ = _; rw [hst, hcs.out]; simp
        clear hh hhas hst hz hc0
        go_wp2_with (go_at_call 10; refine HH.out.mono ?_; rintro e w' ⟨rfl, rfl⟩)
        go_roundw
        case rel => exact ⟨j + 1, n, D, d, _, by omega, by omega, by go_num, rfl, HS, hown, hb⟩
        case measure => simp [intOf]; omega
    · obtain rfl : j = M := by omega
      have hall : lx.take j = lx := by rw [← HM.out, List.take_length]
      have hc1 := hcs.out
      rw [hall] at hc1
      have hrd := Rd.of_own hown'
      have B2 : Below w.heap.size w wr := HB1.out.trans (hb.out.mono HB1.out.size)
      rw [hc1] at hrd
      clear hall hc1
      go_wp2_with fail
      refine (ref_of D n d _ wr hrd (by omega)).mono ?_
      rintro e w3 ⟨ws, A3, c3, rfl, q1, q2, q3, q4, q5⟩
      go_wp2_with fail
      go_ret
      exact ⟨ws, A3, c3, rfl, q1, q2, canon_congr q3 HF.out, q4, B2.trans (q5.mono B2.size)⟩
end Go.Proofs.YtknnalaemndnaaaDoor
