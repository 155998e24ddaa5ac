/- Clocks of workers: List, Of, Compare, At. -/
import Derived.Test.YtoodifpkconfcaaRcA
import Derived.Laws.MakeOwn
namespace Go.Proofs.Ytoodifpkconfcaa
open Go.RowKit
theorem info_intR : (Try.prog.info? 3).map (fun i => (i.zero, i.size, i.bytes)) = some (some (.int .i64 0), 1, 8) := by kernel_rfl
theorem make_intsR (n : Nat) (hn : n ≤ 1048576) (w : World) : (Instr.makeSlice 26 (.int .i64 (n : Int)) (.int .i64 (n : Int))).run Try.prog w = .ok (.slice (some ⟨w.heap.size, 0, none⟩) n n) (w.alloc (.cells (madeCells #[.int .i64 0] n) 3)) := by
  obtain ⟨i, hi, hzz⟩ := Option.map_eq_some_iff.1 info_intR
  simp only [Prod.mk.injEq] at hzz
  obtain ⟨hz, hs, hb⟩ := hzz
  have hr := run_make (P := Try.prog) w 26 3 i _ Try.underlying26 hi hz .i64 .i64 n n (by omega) (Int.le_refl _) (by rw [hb]; omega) (by omega)
  simp only [Int.toNat_natCast, hs, Nat.mul_one] at hr
  exact hr
theorem madeR_list (n : Nat) : (madeCells #[Value.int .i64 0] n) = (List.replicate n (Value.int .i64 0)).toArray := by
  apply Array.toList_inj.1
  rw [toList_madeCells_one]
/-- A clock's numbers, so many of them that behind them there is nothing. -/
def RetCl (c : List Int) (w : World) (e : Ending) (w' : World) : Prop :=
  ∃ g n : Nat, e = .returned (.slice (some ⟨g, 0, none⟩) n n) ∧ w.heap.size ≤ g ∧ n ≤ 65 ∧ (∀ i, n ≤ i → i < 65 → ig c i = 0) ∧ Rd w' w'.heap.size (some ⟨g, 0, none⟩) n ((c.take n).map (.int .i64)) ∧ Below w.heap.size w w'
set_option maxRecDepth 100000 in
set_option maxHeartbeats 2000000 in
theorem cl_list (c : List Int) (hc : c.length = 65) (w : World) :
    Calls Try.prog 23 #[.agg (clC c)] w (RetCl c w) := by
  obtain ⟨w1, hw1⟩ : ∃ x, w.alloc (.cells (clC c) 45) = x := ⟨_, rfl⟩
  have b1 : Below w.heap.size w w1 := by rw [← hw1]; exact bel_boxC _ _
  have k1 : Blk w1 w.heap.size 45 (clC c) := by rw [← hw1]; exact Blk.new _ _ _
  have X1 := Lib.hid hw1
  have HB1 := Lib.hid b1
  have HK1 := Lib.hid k1
  have HC := Lib.hid hc
  have HLT := Lib.hid k1.lt
  clear hw1 b1 k1 hc
  go_enter Try.func23, Try.ntmps23
  go_upto_region 1 with (refine wpList_valE rfl (exec_boxC rfl rfl X1.out) ?_)
  go_upto_region 2 with fail
  go_loopw [3] (fun s3 wr => ∃ (n : Nat), n ≤ 65 ∧ s3 = .int .i64 n ∧ Hid (∀ i, n ≤ i → i < 65 → ig c i = 0) ∧ Hid (wr = w1)) (fun s3 _ => (intOf s3).toNat)
  case atStart => exact ⟨65, Nat.le_refl _, rfl, Lib.hid (fun i h1 h2 => absurd h2 (by omega)), Lib.hid rfl⟩
  case round =>
    obtain ⟨n, hn, rfl, HZ, HWE⟩ := hrel
    have hwe := HWE.out
    subst hwe
    by_cases h0 : 0 < n ∧ ig c (n - 1) = 0
    · obtain ⟨m, rfl⟩ : ∃ m, n = m + 1 := ⟨n - 1, by omega⟩
      have cz : wr.cell? ⟨w.heap.size, m, none⟩ = some (.int .i64 0) := by
        have h := (HK1.out.cell m).trans (clC_get (by rw [HC.out]; omega))
        rw [show ig c m = 0 from h0.2] at h
        exact h
      have HM : Hid (∀ i, m ≤ i → i < 65 → ig c i = 0) := fun i h1 h2 => by
        by_cases e : i = m
        · subst e; exact h0.2
        · exact HZ.out i (by omega) h2
      have e1 : wrap64 ((m : Nat) : Int) = (m : Int) := by unfold wrap64; omega
      have m5 : (m : Int) < 65 := by omega
      clear h0
      go_wp2_with fail
      go_roundw
      case rel => exact ⟨m, by omega, by go_num, HM, by first | trivial | exact Lib.hid rfl⟩
      case measure => simp [intOf]
    · obtain ⟨wn, hwn⟩ : ∃ x, wr.alloc (.cells (madeCells #[.int .i64 0] n) 3) = x := ⟨_, rfl⟩
      have hmk : (Instr.makeSlice 26 (.int .i64 (n : Int)) (.int .i64 (n : Int))).run Try.prog wr = .ok (.slice (some ⟨wr.heap.size, 0, none⟩) n n) wn := by rw [← hwn]; exact make_intsR n (by omega) wr
      have hbn : Below wr.heap.size wr wn := by rw [← hwn]; exact bel_boxC _ _
      have hh1 : wn.heap[wr.heap.size]? = some (.cells (List.replicate n (Value.int .i64 0)).toArray 3 (0, 0)) := by rw [← hwn, madeR_list]; exact heap_alloc_new wr _
      have HBN := Lib.hid hbn
      have HH1 := Lib.hid hh1
      have HKN := Lib.hid (HK1.out.below hbn HK1.out.lt)
      have hsz : (Try.prog.info? 3).map (·.size) = some 1 := by kernel_rfl
      have HSZ := Lib.hid hsz
      have HLEN : Hid (((c.take n).map (Value.int .i64)).length = Nat.min 65 n) := by
        show _ = _
        rw [List.length_map, List.length_take, HC.out]
        exact Nat.min_comm _ _
      have HPOS : Hid (0 < ((c.take n).map (Value.int .i64)).length → (some (⟨wr.heap.size, 0, none⟩ : Addr)) = some ⟨wr.heap.size, 0, none⟩ ∧ ∃ ad, (some (⟨w.heap.size, 0, none⟩ : Addr)) = some ad ∧ ∀ j v, ((c.take n).map (Value.int .i64))[j]? = some v → wn.cell? (ad.add j) = some v) := fun _ => ⟨rfl, _, rfl, fun j v hv => by
        rw [Addr.add_lit, Nat.zero_add]
        rw [List.getElem?_map, List.getElem?_take] at hv
        split at hv
        · rename_i hj
          rw [(HKN.out.cell j).trans (clC_get (by rw [HC.out]; omega))]
          rw [← hv]
          simp [ig, List.getD_eq_getElem?_getD, List.getElem?_eq_getElem (show j < c.length by rw [HC.out]; omega)]
        · simp at hv⟩
      have HFIT : Hid (0 + ((c.take n).map (Value.int .i64)).length ≤ (List.replicate n (Value.int .i64 0)).length) := by
        show _ ≤ _
        rw [List.length_map, List.length_take, HC.out, List.length_replicate]
        omega
      have HONE : Hid (∀ v ∈ (c.take n).map (Value.int .i64), v.oneCell' = true) := fun v hv => by
        obtain ⟨z, _, rfl⟩ := List.mem_map.1 hv
        rfl
      have HN : Hid (n = 0 ∨ (0 < n ∧ ig c (n - 1) ≠ 0)) := by
        show _ ∨ _
        rcases Nat.eq_zero_or_pos n with q | q
        · exact .inl q
        · exact .inr ⟨q, fun e => h0 ⟨q, e⟩⟩
      clear hwn hbn hh1 hsz h0
      have fin : ∀ w2 : World, w2.heap[wr.heap.size]? = some (.cells (splice (List.replicate n (Value.int .i64 0)) 0 ((c.take n).map (Value.int .i64))).toArray 3 (0, 0)) → Rd w2 w2.heap.size (some ⟨wr.heap.size, 0, none⟩) n ((c.take n).map (.int .i64)) := fun w2 h => by
        refine ⟨by rw [List.length_map, List.length_take, HC.out]; omega, fun h0 => ⟨_, 0, rfl, (Array.getElem?_eq_some_iff.1 h).1, fun j v hv => ?_⟩⟩
        rw [Nat.zero_add, cell_of_row w2 _ j _ _ (0, 0) h]
        have hl : ((c.take n).map (Value.int .i64)).length = n := by rw [List.length_map, List.length_take, HC.out]; omega
        have e : splice (List.replicate n (Value.int .i64 0)) 0 ((c.take n).map (Value.int .i64)) = (c.take n).map (Value.int .i64) := by
          unfold splice
          rw [Nat.zero_add, hl]
          simp
        rw [e]
        simpa using hv
      have HFIN := Lib.hid fin
      clear fin
      rcases HN.out with rfl | ⟨hpos, hne⟩
      · have hmk2 : (Instr.makeSlice 26 (.int .i64 0) (.int .i64 0)).run Try.prog wr = .ok (.slice (some ⟨wr.heap.size, 0, none⟩) 0 0) wn := hmk
        clear hmk
        go_wp2_with ((with_reducible refine wpList_copy_splice (o := ⟨some 20, _, _, _, _, _⟩) rfl (.tmp 18) (.tmp 19) 26 26 rfl 3 Try.underlying26 HSZ.out (some ⟨wr.heap.size, 0, none⟩) (some ⟨w.heap.size, 0, none⟩) 0 0 65 65 ?q1 ?q2 wr.heap.size 0 (List.replicate 0 (Value.int .i64 0)) 3 HH1.out ((c.take 0).map (.int .i64)) HLEN.out HPOS.out HFIT.out HONE.out wr.heap.size wr HBN.out (Nat.le_refl _) ?_); (case q1 => exact rfl); (case q2 => exact rfl); intro w2 hh2 hb2; have HB2 := Lib.hid hb2; clear hb2)
        go_ret
        exact ⟨_, 0, rfl, Nat.le_of_lt HLT.out, by omega, HZ.out, HFIN.out _ hh2.out, HB1.out.trans (HB2.out.mono HB1.out.size)⟩
      · obtain ⟨m, rfl⟩ : ∃ m, n = m + 1 := ⟨n - 1, by omega⟩
        have cz : wr.cell? ⟨w.heap.size, m, none⟩ = some (.int .i64 (ig c m)) := (HK1.out.cell m).trans (clC_get (by rw [HC.out]; omega))
        have e1 : wrap64 ((m : Nat) : Int) = (m : Int) := by unfold wrap64; omega
        have m5 : (m : Int) < 65 := by omega
        obtain ⟨z, hz⟩ : ∃ z, ig c m = z := ⟨_, rfl⟩
        have hne' : ig c m ≠ 0 := hne
        rw [hz] at cz hne'
        have q1 : (z == 0) = false := by simpa using hne'
        have q2 : decide (z = 0) = false := decide_eq_false hne'
        rw [show ((m + 1 : Nat) : Int) = (m : Int) + 1 from by omega] at hmk
        clear hne hne'
        go_wp2_with ((with_reducible refine wpList_copy_splice (o := ⟨some 20, _, _, _, _, _⟩) rfl (.tmp 18) (.tmp 19) 26 26 rfl 3 Try.underlying26 HSZ.out (some ⟨wr.heap.size, 0, none⟩) (some ⟨w.heap.size, 0, none⟩) (m + 1) (m + 1) 65 65 ?q1 ?q2 wr.heap.size 0 (List.replicate (m + 1) (Value.int .i64 0)) 3 HH1.out ((c.take (m + 1)).map (.int .i64)) HLEN.out HPOS.out HFIT.out HONE.out wr.heap.size wr HBN.out (Nat.le_refl _) ?_); (case q1 => exact rfl); (case q2 => exact rfl); intro w2 hh2 hb2; have HB2 := Lib.hid hb2; clear hb2)
        go_ret
        exact ⟨_, m + 1, rfl, Nat.le_of_lt HLT.out, by omega, HZ.out, HFIN.out _ hh2.out, HB1.out.trans (HB2.out.mono HB1.out.size)⟩
/-- The clock of a list of numbers. -/
def ofI (l : List Int) : List Int := (List.range 65).map fun i => max (ig l i) 0
theorem ofI_len (l : List Int) : (ofI l).length = 65 := by simp [ofI]
theorem ofI_ig (l : List Int) {i : Nat} (h : i < 65) : ig (ofI l) i = max (ig l i) 0 := by simp [ofI, ig, List.getD_eq_getElem?_getD, h]
theorem ig_take (c : List Int) (n i : Nat) : ig (c.take n) i = if i < n then ig c i else 0 := by
  unfold ig
  rw [List.getD_eq_getElem?_getD, List.getElem?_take]
  split
  · rw [List.getD_eq_getElem?_getD]
  · rfl
/-- What List leaves is what was. -/
theorem ofI_take {c : List Int} {n : Nat} (hc : c.length = 65) (h0 : ∀ i, i < 65 → 0 ≤ ig c i) (hz : ∀ i, n ≤ i → i < 65 → ig c i = 0) : ofI (c.take n) = c :=
  ext_getD (by rw [ofI_len, hc]) fun k hk => by
    have hk : k < 65 := by rw [← ofI_len (c.take n)]; exact hk
    rw [ofI_ig _ hk, ig_take]
    have := h0 k hk
    by_cases h : k < n
    · rw [if_pos h]; omega
    · rw [if_neg h, hz k (by omega) hk]; rfl
theorem ig_cl0 (i : Nat) : ig cl0 i = 0 := by
  unfold ig cl0
  rw [List.getD_eq_getElem?_getD, List.getElem?_replicate]
  split <;> rfl
structure OfS (w w' : World) (b rb : Nat) (l : List Int) (j : Nat) (os : List Int) : Prop where
  k : Blk w' b 45 (clC os)
  r : Blk w' rb 45 (clC cl0)
  ln : os.length = 65
  v : ∀ i, i < 65 → ig os i = if i < j then max (ig l i) 0 else 0
  ne : b ≠ rb
  lo : w.heap.size ≤ b ∧ w.heap.size ≤ rb
  h : Below w.heap.size w w'
theorem OfS.step {w w' : World} {b rb : Nat} {l : List Int} {j : Nat} {os : List Int} (S : OfS w w' b rb l j os) (hj : j < 65) : OfS w (w'.setCell ⟨b, j, none⟩ (.int .i64 (max (ig l j) 0))) b rb l (j + 1) (os.set j (max (ig l j) 0)) := by
  refine ⟨by rw [← clC_set]; exact S.k.set_ j _, S.r.far (fun q => S.ne (Eq.symm q)) _, by rw [List.length_set]; exact S.ln, fun i hi => ?_, S.ne, S.lo, S.h.trans ((Tch.setCell (S := fun k => k = b) (Tch.refl _ w') rfl _ _).below S.h.size (fun k hk => by subst hk; exact S.lo.1))⟩
  rw [ig_set (by rw [S.ln]; exact hj)]
  by_cases e : j = i
  · subst e
    rw [if_pos rfl, if_pos (by omega)]
  · rw [if_neg e, S.v i hi]
    by_cases h : i < j
    · rw [if_pos h, if_pos (by omega)]
    · rw [if_neg h, if_neg (by omega)]
theorem ig_over {l : List Int} {i : Nat} (h : l.length ≤ i) : ig l i = 0 := by unfold ig; rw [List.getD_eq_getElem?_getD, List.getElem?_eq_none h]; rfl
theorem OfS.done {w w' : World} {b rb : Nat} {l : List Int} {n : Nat} {os : List Int} (S : OfS w w' b rb l n os) (hl : l.length = n) : os = ofI l :=
  ext_getD (by rw [S.ln, ofI_len]) fun k hk => by
    have hk : k < 65 := by rw [← S.ln]; exact hk
    rw [S.v k hk, ofI_ig _ hk]
    split
    · rfl
    · rw [ig_over (by omega)]; rfl
set_option maxRecDepth 100000 in
set_option maxHeartbeats 2000000 in
theorem cl_of (A : Option Addr) (n c : Nat) (l : List Int) (w : World) (hr : Rd w w.heap.size A n (l.map (.int .i64))) (hn : n ≤ 65) (hnc : n ≤ c) :
    Calls Try.prog 25 #[.slice A n c] w (fun e w' => e = .returned (.agg (clC (ofI l))) ∧ Below w.heap.size w w') := by
  obtain ⟨w1, hw1⟩ : ∃ x, w.alloc (.cells (clC cl0) 45) = x := ⟨_, rfl⟩
  obtain ⟨w2, hw2⟩ : ∃ x, w1.alloc (.cells (clC cl0) 45) = x := ⟨_, rfl⟩
  have b1 : Below w.heap.size w w1 := by rw [← hw1]; exact bel_boxC _ _
  have b2 : Below w1.heap.size w1 w2 := by rw [← hw2]; exact bel_boxC _ _
  have e1 : w1.heap.size = w.heap.size + 1 := by rw [← hw1]; simp only [World.alloc, Array.size_push]
  have k1 : Blk w1 w.heap.size 45 (clC cl0) := by rw [← hw1]; exact Blk.new _ _ _
  have k2 : Blk w2 w1.heap.size 45 (clC cl0) := by rw [← hw2]; exact Blk.new _ _ _
  have k1 := k1.below b2 k1.lt
  have h12 := b1.trans (b2.mono b1.size)
  have HS : Hid (OfS w w2 w1.heap.size w.heap.size l 0 cl0) := ⟨k2, k1, cl0_len, fun i hi => by rw [if_neg (Nat.not_lt_zero _)]; exact ig_cl0 i, by omega, ⟨by omega, Nat.le_refl _⟩, h12⟩
  have X1 := Lib.hid hw1
  have X2 := Lib.hid hw2
  have HR := Lib.hid hr
  have HLN : Hid (l.length = n) := by show _ = _; have := hr.len; simpa using this
  obtain ⟨m, hm⟩ : ∃ m, ofI l = m := ⟨_, rfl⟩
  rw [hm]
  have HMM := Lib.hid hm
  have t1 : min (n : Int) 65 = (n : Int) := by omega
  have t2 : (n : Int) ≤ (c : Int) := by omega
  clear b1 b2 e1 k1 k2 h12 hw1 hw2 hr hm
  go_enter Try.func25, Try.ntmps25
  go_upto_region 2 with (first
    | refine wpList_valE rfl (exec_allocC rfl X1.out) ?_
    | refine wpList_valE rfl (exec_allocC rfl X2.out) ?_)
  go_upto_region 3 with fail
  go_loopw [4, 5, 12] (fun _ _ s12 wr => ∃ (j : Nat) (os : List Int), j ≤ n ∧ s12 = .int .i64 j ∧ Hid (OfS w wr w1.heap.size w.heap.size l j os)) (fun _ _ s12 _ => n - (intOf s12).toNat)
  case atStart => exact ⟨0, _, Nat.zero_le _, rfl, HS⟩
  case round =>
    clear HS
    obtain ⟨j, os, hj, rfl, HI⟩ := hrel
    by_cases hlt : j < n
    · have HLT := Lib.hid hlt
      have hst := HI.out.step (show j < 65 by omega)
      obtain ⟨b, o, rfl, _, hcj⟩ := (HR.out.below HI.out.h).atI hlt
      have cj : wr.cell? ⟨w1.heap.size, j, none⟩ = some (.int .i64 (ig os j)) := (HI.out.k.cell j).trans (clC_get (by rw [HI.out.ln]; omega))
      have fj : wr.frozen? ⟨w1.heap.size, j, none⟩ = false := HI.out.k.frozen j
      have HS := Lib.hid hst
      have j5 : (j : Int) < 65 := by omega
      clear hst
      go_wp2_with fail
      go_roundw
      case rel => exact ⟨j + 1, _, by have := HLT.out; omega, by go_num, HS⟩
      case measure => have := HLT.out; simp [intOf]; omega
    · obtain rfl : j = n := by omega
      obtain rfl := HI.out.done HLN.out
      have hl := ofI_len l
      have LD := cl_load hl HI.out.k
      have ST := cl_store (d := ofI l) cl0_len hl HI.out.r
      have k5 := cl_stored (d := ofI l) cl0_len hl HI.out.r
      obtain ⟨w4, hw4⟩ : ∃ x, wr.setCells w.heap.size 0 (clC (ofI l)).toList = x := ⟨_, rfl⟩
      rw [hw4] at ST k5
      have hB : Below w.heap.size w w4 := by
        have t2 : Tch (fun k => k = w.heap.size) wr w4 := by rw [← hw4]; exact Tch.setCells (S := fun k => k = w.heap.size) rfl _ _ wr (Tch.refl _ wr)
        exact HI.out.h.trans (t2.below HI.out.h.size (fun k hk => by subst hk; exact HI.out.lo.2))
      have HB := Lib.hid hB
      have HK := Lib.hid k5
      have HL := Lib.hid hl
      have hm := HMM.out
      rw [hm] at LD ST HK HL
      clear hB k5 hl hw4 hm
      go_wp2_with (first
        | refine wpList_loadE LD _ rfl rfl rfl ?_
        | refine wpList_storeE ST _ _ rfl rfl rfl rfl ?_)
      refine bodyPost_ret (v := .agg (clC m)) ?_ rfl ⟨rfl, HB.out⟩
      exact results_cell_row Try.results25 _ _ _ _ _ _ _ rfl HK.out Try.underlying45 rfl (by rw [clC_size, HL.out]; exact clTN)
/-- How two clocks stand. -/
def cmpC (x y : List Int) : Int := if x = y then 0 else if mxC x y = y then -1 else if mxC x y = x then 1 else 2
set_option maxRecDepth 100000 in
set_option maxHeartbeats 2000000 in
theorem cl_compare (A1 : Option Addr) (n1 c1 : Nat) (l1 : List Int) (A2 : Option Addr) (n2 c2 : Nat) (l2 : List Int) (w : World) (hr1 : Rd w w.heap.size A1 n1 (l1.map (.int .i64))) (hn1 : n1 ≤ 65) (hnc1 : n1 ≤ c1) (hr2 : Rd w w.heap.size A2 n2 (l2.map (.int .i64))) (hn2 : n2 ≤ 65) (hnc2 : n2 ≤ c2) :
    Calls Try.prog 11 #[.slice A1 n1 c1, .slice A2 n2 c2] w (fun e w' => e = .returned (.int .i64 (cmpC (ofI l1) (ofI l2))) ∧ Below w.heap.size w w') := by
  obtain ⟨x, hx⟩ : ∃ x, ofI l1 = x := ⟨_, rfl⟩
  obtain ⟨y, hy⟩ : ∃ y, ofI l2 = y := ⟨_, rfl⟩
  have hlx : x.length = 65 := by rw [← hx]; exact ofI_len _
  have hly : y.length = 65 := by rw [← hy]; exact ofI_len _
  have h1 := cl_of A1 n1 c1 l1 w hr1 hn1 hnc1
  rw [hx] at h1 ⊢
  rw [hy]
  obtain ⟨m, hm⟩ : ∃ m, mxC x y = m := ⟨_, rfl⟩
  have hlm : m.length = 65 := by rw [← hm]; exact mxC_len hlx hly
  have HO1 := Lib.hid h1
  have HR2 := Lib.hid hr2
  have HX := Lib.hid hlx
  have HY := Lib.hid hly
  have HM := Lib.hid hlm
  have HMM := Lib.hid hm
  have HYY := Lib.hid hy
  obtain ⟨q, hq⟩ : ∃ q, cmpC x y = q := ⟨_, rfl⟩
  rw [hq]
  have HQ := Lib.hid hq
  clear h1 hr1 hr2 hlx hly hlm hx hy hm hq
  go_enter Try.func11, Try.ntmps11
  go_upto_region 2 with (first
    | (go_at_call 25; (with_reducible refine HO1.out.mono ?_); rintro e w1 ⟨rfl, hb1⟩; have HB1 := Lib.hid hb1; have h2 := cl_of A2 n2 c2 l2 w1 ((HR2.out.below hb1).more hb1.size) hn2 hnc2; rw [HYY.out] at h2; have HO2 := Lib.hid h2; clear hb1 h2)
    | (go_at_call 25; (with_reducible refine HO2.out.mono ?_); rintro e w2 ⟨rfl, hb2⟩; have HB2 := Lib.hid hb2; obtain ⟨w3, hw3⟩ : ∃ q, w2.alloc (.cells (clC cl0) 45) = q := ⟨_, rfl⟩; have HW3 := Lib.hid hw3; obtain ⟨w4, hw4⟩ : ∃ q, w3.alloc (.cells (clC cl0) 45) = q := ⟨_, rfl⟩; have HW4 := Lib.hid hw4; clear hb2 hw3 hw4; have b3 : Below w2.heap.size w2 w3 := (by rw [← HW3.out]; exact bel_boxC _ _); have b4 : Below w3.heap.size w3 w4 := (by rw [← HW4.out]; exact bel_boxC _ _); have k3 : Blk w3 w2.heap.size 45 (clC cl0) := (by rw [← HW3.out]; exact Blk.new _ _ _); have k4 : Blk w4 w3.heap.size 45 (clC cl0) := (by rw [← HW4.out]; exact Blk.new _ _ _); have k34 := k3.below b4 k3.lt; have ne : w2.heap.size ≠ w3.heap.size := (by have := k3.lt; omega); have ST1 := cl_store (d := x) cl0_len HX.out k34; have k5 := cl_stored (d := x) cl0_len HX.out k34; obtain ⟨w5, hw5⟩ : ∃ q, w4.setCells w2.heap.size 0 (clC x).toList = q := ⟨_, rfl⟩; have t45 : Tch (fun k => k = w2.heap.size) w4 w5 := (by rw [← hw5]; exact Tch.setCells (S := fun k => k = w2.heap.size) rfl _ _ w4 (Tch.refl _ w4)); rw [hw5] at ST1 k5; have k45 := k4.tch t45 (fun q => ne q.symm); have ST2 := cl_store (d := y) cl0_len HY.out k45; have k6 := cl_stored (d := y) cl0_len HY.out k45; obtain ⟨w6, hw6⟩ : ∃ q, w5.setCells w3.heap.size 0 (clC y).toList = q := ⟨_, rfl⟩; have t56 : Tch (fun k => k = w3.heap.size) w5 w6 := (by rw [← hw6]; exact Tch.setCells (S := fun k => k = w3.heap.size) rfl _ _ w5 (Tch.refl _ w5)); rw [hw6] at ST2 k6; have k56 := k5.tch t56 ne; have L1 := cl_load HX.out k56; have L2 := cl_load HY.out k6; have b26 : Below w2.heap.size w2 w6 := (by have h1 := b3.trans (b4.mono b3.size); have h2 := h1.trans (t45.below h1.size (fun k hk => Nat.le_of_eq hk.symm)); exact h2.trans (t56.below h2.size (fun k hk => by subst hk; exact b3.size))); have HB26 := Lib.hid b26; have hwi := cl_with x y HX.out HY.out w6; rw [HMM.out] at hwi; have HWI := Lib.hid hwi; have HK1 := Lib.hid k56; have HK2 := Lib.hid k6; clear hwi b26 b3 b4 k3 k4 k34 k5 k45 k6 k56 t45 t56 hw5 hw6 ne)
    | refine wpList_valE rfl (exec_allocC rfl HW3.out) ?_
    | refine wpList_valE rfl (exec_allocC rfl HW4.out) ?_
    | refine wpList_storeE ST1 _ _ rfl rfl rfl rfl ?_
    | refine wpList_storeE ST2 _ _ rfl rfl rfl rfl ?_)
  have EE : ∀ a b : List Int, a.length = 65 → b.length = 65 → ∀ e : Bool, decide (a = b) = e → ∀ (o : Oper) (ρ : Operand → Value) (u v : Operand) (W : World), o.op = .binOp .eql 45 u v 45 → ρ u = .agg (clC a) → ρ v = .agg (clC b) → (execOp ρ o).run Try.prog W = .ok (.value (.bool e)) W := fun a b h1 h2 e he o ρ u v W h3 h4 h5 => by rw [← he]; exact exec_eqlC h3 h4 h5 h1 h2
  obtain ⟨e1, he1⟩ : ∃ e, decide (x = y) = e := ⟨_, rfl⟩
  obtain ⟨e2, he2⟩ : ∃ e, decide (m = y) = e := ⟨_, rfl⟩
  obtain ⟨e3, he3⟩ : ∃ e, decide (m = x) = e := ⟨_, rfl⟩
  have HE1 := Lib.hid (EE x y HX.out HY.out e1 he1)
  have HE2 := Lib.hid (EE m y HM.out HY.out e2 he2)
  have HE3 := Lib.hid (EE m x HM.out HX.out e3 he3)
  have HQQ : Hid (q = if e1 = true then 0 else if e2 = true then -1 else if e3 = true then 1 else 2) := by
    show _ = _
    have hqq := HQ.out
    unfold cmpC at hqq
    rw [HMM.out] at hqq
    rw [← he1, ← he2, ← he3, ← hqq]
    simp only [decide_eq_true_eq]
  clear EE he1 he2 he3
  cases e1
  case true =>
    go_wp2_with (first
      | refine wpList_loadE L1 _ rfl rfl rfl ?_
      | refine wpList_loadE L2 _ rfl rfl rfl ?_
      | refine wpList_valE rfl (HE1.out _ _ _ _ _ rfl rfl rfl) ?_
      | (go_at_call 24; (with_reducible refine HWI.out.mono ?_); rintro e w7 ⟨rfl, hb7⟩; have HB7 := Lib.hid hb7; have L3 := cl_load HX.out (HK1.out.below hb7 HK1.out.lt); have L4 := cl_load HY.out (HK2.out.below hb7 HK2.out.lt); clear hb7)
      | refine wpList_loadE L3 _ rfl rfl rfl ?_
      | refine wpList_loadE L4 _ rfl rfl rfl ?_
      | refine wpList_valE rfl (HE2.out _ _ _ _ _ rfl rfl rfl) ?_
      | refine wpList_valE rfl (HE3.out _ _ _ _ _ rfl rfl rfl) ?_)
    go_ret
    exact ⟨by rw [HQQ.out]; rfl, HB1.out.trans ((HB2.out.trans (HB26.out.mono HB2.out.size)).mono HB1.out.size)⟩
  case false =>
    cases e2
    case true =>
      go_wp2_with (first
        | refine wpList_loadE L1 _ rfl rfl rfl ?_
        | refine wpList_loadE L2 _ rfl rfl rfl ?_
        | refine wpList_valE rfl (HE1.out _ _ _ _ _ rfl rfl rfl) ?_
        | (go_at_call 24; (with_reducible refine HWI.out.mono ?_); rintro e w7 ⟨rfl, hb7⟩; have HB7 := Lib.hid hb7; have L3 := cl_load HX.out (HK1.out.below hb7 HK1.out.lt); have L4 := cl_load HY.out (HK2.out.below hb7 HK2.out.lt); clear hb7)
        | refine wpList_loadE L3 _ rfl rfl rfl ?_
        | refine wpList_loadE L4 _ rfl rfl rfl ?_
        | refine wpList_valE rfl (HE2.out _ _ _ _ _ rfl rfl rfl) ?_
        | refine wpList_valE rfl (HE3.out _ _ _ _ _ rfl rfl rfl) ?_)
      go_ret
      exact ⟨by rw [HQQ.out]; rfl, HB1.out.trans (((HB2.out.trans (HB26.out.mono HB2.out.size)).trans (HB7.out.mono (HB2.out.trans (HB26.out.mono HB2.out.size)).size)).mono HB1.out.size)⟩
    case false =>
      cases e3
      case true =>
        go_wp2_with (first
          | refine wpList_loadE L1 _ rfl rfl rfl ?_
          | refine wpList_loadE L2 _ rfl rfl rfl ?_
          | refine wpList_valE rfl (HE1.out _ _ _ _ _ rfl rfl rfl) ?_
          | (go_at_call 24; (with_reducible refine HWI.out.mono ?_); rintro e w7 ⟨rfl, hb7⟩; have HB7 := Lib.hid hb7; have L3 := cl_load HX.out (HK1.out.below hb7 HK1.out.lt); have L4 := cl_load HY.out (HK2.out.below hb7 HK2.out.lt); clear hb7)
          | refine wpList_loadE L3 _ rfl rfl rfl ?_
          | refine wpList_loadE L4 _ rfl rfl rfl ?_
          | refine wpList_valE rfl (HE2.out _ _ _ _ _ rfl rfl rfl) ?_
          | refine wpList_valE rfl (HE3.out _ _ _ _ _ rfl rfl rfl) ?_)
        go_ret
        exact ⟨by rw [HQQ.out]; rfl, HB1.out.trans (((HB2.out.trans (HB26.out.mono HB2.out.size)).trans (HB7.out.mono (HB2.out.trans (HB26.out.mono HB2.out.size)).size)).mono HB1.out.size)⟩
      case false =>
        go_wp2_with (first
          | refine wpList_loadE L1 _ rfl rfl rfl ?_
          | refine wpList_loadE L2 _ rfl rfl rfl ?_
          | refine wpList_valE rfl (HE1.out _ _ _ _ _ rfl rfl rfl) ?_
          | (go_at_call 24; (with_reducible refine HWI.out.mono ?_); rintro e w7 ⟨rfl, hb7⟩; have HB7 := Lib.hid hb7; have L3 := cl_load HX.out (HK1.out.below hb7 HK1.out.lt); have L4 := cl_load HY.out (HK2.out.below hb7 HK2.out.lt); clear hb7)
          | refine wpList_loadE L3 _ rfl rfl rfl ?_
          | refine wpList_loadE L4 _ rfl rfl rfl ?_
          | refine wpList_valE rfl (HE2.out _ _ _ _ _ rfl rfl rfl) ?_
          | refine wpList_valE rfl (HE3.out _ _ _ _ _ rfl rfl rfl) ?_)
        go_ret
        exact ⟨by rw [HQQ.out]; rfl, HB1.out.trans (((HB2.out.trans (HB26.out.mono HB2.out.size)).trans (HB7.out.mono (HB2.out.trans (HB26.out.mono HB2.out.size)).size)).mono HB1.out.size)⟩
set_option maxRecDepth 100000 in
theorem cl_at (A : Option Addr) (n c : Nat) (l : List Int) (u : Nat) (hu : u < 65) (w : World) (hr : Rd w w.heap.size A n (l.map (.int .i64))) (hn : n ≤ 65) (hnc : n ≤ c) :
    Calls Try.prog 12 #[.slice A n c, .int .i64 ((u : Nat) : Int)] w (fun e w' => e = .returned (.int .i64 (ig (ofI l) u)) ∧ Below w.heap.size w w') := by
  have HO := Lib.hid (cl_of A n c l w hr hn hnc)
  have XI : ∀ (o : Oper) (ρ : Operand → Value) (W : World), o.op = .index 45 (.tmp 12) (.tmp 13) → ρ (.tmp 12) = .agg (clC (ofI l)) → ρ (.tmp 13) = .int .i64 (u : Int) → (execOp ρ o).run Try.prog W = .ok (.value (.int .i64 (ig (ofI l) u))) W := fun o ρ W h1 h2 h3 => exec_indexC h1 h2 h3 hu (ofI_len l)
  have HXI := Lib.hid XI
  have t1 : decide ((u : Int) < 0) = false := decide_eq_false (by omega)
  have t2 : decide ((u : Int) ≥ 65) = false := decide_eq_false (by omega)
  have t3 : decide (65 ≤ u) = false := decide_eq_false (by omega)
  clear hr XI
  go_enter Try.func12, Try.ntmps12
  go_wp2_with (first
    | (go_at_call 25; (with_reducible refine HO.out.mono ?_); rintro e w1 ⟨rfl, hb1⟩; have HB1 := Lib.hid hb1; clear hb1)
    | refine wpList_valE rfl (HXI.out _ _ _ rfl rfl rfl) ?_)
  go_ret
  exact ⟨rfl, HB1.out⟩
end Go.Proofs.Ytoodifpkconfcaa
