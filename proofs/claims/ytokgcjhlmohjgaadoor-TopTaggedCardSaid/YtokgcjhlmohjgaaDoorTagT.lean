/- A mask's text, by the program and by the document. -/
import Derived.Test.YtokgcjhlmohjgaaDoorTagM
import Derived.Test.YtokgcjhlmohjgaaDoorShelf
namespace Go.Proofs.YtokgcjhlmohjgaaDoor
open Go.RowKit
/-- Texts with a plus between. -/
def joinT (l : List (List Int)) : List Int := (l.map fun t => 43 :: t).flatten
def joinP : List (List Int) → List Int
  | [] => []
  | t :: l => t ++ joinT l
theorem joinT_snoc (l : List (List Int)) (t : List Int) : joinT (l ++ [t]) = joinT l ++ (43 :: t) := by simp [joinT]
theorem joinP_snoc (l : List (List Int)) (t : List Int) (h : l ≠ []) : joinP (l ++ [t]) = joinP l ++ (43 :: t) := by
  cases l with
  | nil => exact absurd rfl h
  | cons x l => simp [joinP, joinT_snoc]
theorem bytes_joinT {l : List (List Int)} (h : ∀ t ∈ l, Bytes t) : Bytes (joinT l) := fun b hb => by
  unfold joinT at hb
  rw [List.mem_flatten] at hb
  obtain ⟨u, hu, hbu⟩ := hb
  obtain ⟨t, ht, rfl⟩ := List.mem_map.1 hu
  rcases List.mem_cons.1 hbu with rfl | q
  · decide
  · exact h t ht b q
theorem bytes_joinP {l : List (List Int)} (h : ∀ t ∈ l, Bytes t) : Bytes (joinP l) := by
  cases l with
  | nil => exact Bytes.nil
  | cons x l => exact (h x (by simp)).append (bytes_joinT fun t ht => h t (by simp [ht]))
theorem len_joinT (l : List (List Int)) (N : Nat) (h : ∀ t ∈ l, t.length ≤ N) : (joinT l).length ≤ l.length * (N + 1) := by
  induction l with
  | nil => simp [joinT]
  | cons x l ih =>
    have h1 := ih fun t ht => h t (by simp [ht])
    have h2 := h x (by simp)
    have : joinT (x :: l) = 43 :: x ++ joinT l := rfl
    rw [this]
    simp
    rw [Nat.succ_mul]
    omega
theorem len_joinP (l : List (List Int)) (N : Nat) (h : ∀ t ∈ l, t.length ≤ N) : (joinP l).length ≤ l.length * (N + 1) := by
  cases l with
  | nil => simp [joinP]
  | cons x l =>
    have h1 := len_joinT l N fun t ht => h t (by simp [ht])
    have h2 := h x (by simp)
    simp [joinP]
    rw [Nat.succ_mul]
    omega
theorem join_str (l : List (List Int)) : (⟨(Lib.join ((l.map strOfNums).map (·.data.toList)) (strOfNums [43]).data.toList).toArray⟩ : ByteArray) = strOfNums (joinP l) := by
  unfold strOfNums
  congr 1
  have e : ∀ r : List (List Int), Lib.joinTail ((strOfNums [43]).data.toList) ((r.map strOfNums).map (·.data.toList)) = (joinT r).map fun n => UInt8.ofNat n.toNat := by
    intro r
    induction r with
    | nil => rfl
    | cons x r ih =>
      have h1 : Lib.joinTail ((strOfNums [43]).data.toList) (((x :: r).map strOfNums).map (·.data.toList)) = ((strOfNums [43]).data.toList ++ (strOfNums x).data.toList) ++ Lib.joinTail ((strOfNums [43]).data.toList) ((r.map strOfNums).map (·.data.toList)) := by simp [Lib.joinTail]
      rw [h1, ih]
      have h2 : joinT (x :: r) = 43 :: x ++ joinT r := rfl
      rw [h2]
      simp [strOfNums]
  cases l with
  | nil => rfl
  | cons x l =>
    have h1 := Lib.join_cons (strOfNums x).data.toList ((l.map strOfNums).map (·.data.toList)) (strOfNums [43]).data.toList
    have h2 : ((x :: l).map strOfNums).map (·.data.toList) = (strOfNums x).data.toList :: (l.map strOfNums).map (·.data.toList) := rfl
    show List.toArray (Lib.join (((x :: l).map strOfNums).map (·.data.toList)) (strOfNums [43]).data.toList) = _
    rw [h2, h1, e]
    simp [joinP, strOfNums]
/-- strings.Join at plus. -/
theorem join_plus (A : Option Addr) (n c : Nat) (l : List (List Int)) (w : World) (hr : Rd w w.heap.size A n (l.map sv)) (hc : n ≤ c) (h64 : n ≤ 64) (hlen : (joinP l).length ≤ 4096) :
    Calls Tryd.prog 21 #[.slice A n c, .string ⟨#[43]⟩] w fun e w' => e = .returned (.string (strOfNums (joinP l))) ∧ Below w.heap.size w w' := by
  have hl : l.length = n := by simpa using hr.1
  by_cases h0 : n = 0
  · subst h0
    obtain rfl := List.eq_nil_of_length_eq_zero hl
    refine (strings_join_none A c ⟨#[43]⟩ w).mono ?_
    rintro e w' ⟨rfl, rfl⟩
    exact ⟨rfl, Below.refl _ _⟩
  · obtain ⟨b, o, rfl, hb, hcell⟩ := hr.2 (by omega)
    have hl2 : (l.map strOfNums).length = n := by rw [List.length_map, hl]
    have hj := join_str l
    have h := strings_join b o c (l.map strOfNums) ⟨#[43]⟩ w (fun j x hx => by
      rw [List.getElem?_map] at hx
      obtain ⟨t, ht, rfl⟩ := Option.map_eq_some_iff.1 hx
      exact hcell j (.string (strOfNums t)) (by rw [List.getElem?_map, ht]; rfl)) hb (by omega) (by omega) (by
      have e2 := congrArg (fun s : ByteArray => s.data.toList) hj
      have e3 : (Lib.join ((l.map strOfNums).map (·.data.toList)) (⟨#[43]⟩ : ByteArray).data.toList) = (joinP l).map fun n => UInt8.ofNat n.toNat := by
        exact e2
      rw [e3, List.length_map]; omega)
    rw [hl2] at h
    refine h.mono ?_
    rintro e w' ⟨rfl, hb2⟩
    exact ⟨by rw [← hj]; rfl, hb2⟩
/-- The text of a mask. -/
def txL (ts : List (List Int)) (m : Nat) : List Int := joinP (nmL ts m)
theorem nmL_mem {ts : List (List Int)} {m : Nat} (hm : m < 18446744073709551616) {t : List Int} (h : t ∈ nmL ts m) : t ∈ ts ∧ nameB t = true ∧ nmW ts m = 0 ∧ chkE ts = 0 := by
  unfold nmL at h
  split at h
  · rename_i h0
    have hc : chkE ts = 0 := by
      apply Classical.byContradiction
      intro q
      have := (nm_chk (ts := ts) (m := m) q).1
      rw [h0] at this
      exact q this.symm
    have hd : m / 2 ^ ts.length = 0 := by
      apply Classical.byContradiction
      intro q
      have := (nm_range (ts := ts) (m := m) hc q).1
      rw [h0] at this
      cases this
    unfold nmE at h
    obtain ⟨i, hi, rfl⟩ := List.mem_map.1 h
    obtain ⟨q, hq, e⟩ := List.getElem_of_mem hi
    have h1 := (hi_zero hm).1 hd q hq
    obtain ⟨y, hy, _⟩ := mb_at hq
    have e2 : ig (mb m) q = i := by rw [← e]; simp [ig, List.getD_eq_getElem?_getD, hq]
    rw [e2] at hy h1
    subst hy
    rw [Int.toNat_natCast]
    have hyl : y < ts.length := by omega
    have hmem := tg_mem hyl
    exact ⟨hmem, List.all_eq_true.1 (chk_zero hc).2.1 _ hmem, h0, hc⟩
  · cases h
theorem nmL_len (ts : List (List Int)) (m : Nat) : (nmL ts m).length ≤ 64 := by
  unfold nmL
  split
  · rw [nmE_len]; exact mb_len m
  · simp
theorem name_len {t : List Int} (h : nameB t = true) : t.length ≤ 32 := by unfold nameB at h; simp at h; exact h.2
theorem txL_len {ts : List (List Int)} {m : Nat} (hm : m < 18446744073709551616) : (txL ts m).length ≤ 2112 := by
  have h := len_joinP (nmL ts m) 32 fun t ht => name_len (nmL_mem hm ht).2.1
  have h2 := nmL_len ts m
  unfold txL
  have : (nmL ts m).length * (32 + 1) ≤ 64 * 33 := Nat.mul_le_mul_right _ h2
  omega
theorem nmL_bytes {ts : List (List Int)} {m : Nat} (hm : m < 18446744073709551616) (hall : ∀ t ∈ ts, Bytes t) : ∀ t ∈ nmL ts m, Bytes t := fun t ht => hall t (nmL_mem hm ht).1
set_option maxRecDepth 100000 in
set_option maxHeartbeats 1000000 in
theorem tag_text (A : Option Addr) (n c : Nat) (ts : List (List Int)) (hall : ∀ t ∈ ts, Bytes t) (hsz : ∀ t ∈ ts, t.length ≤ 9223372036854775807) (m : Nat) (hm : m < 18446744073709551616) (w : World) (hr : Rd w w.heap.size A n (ts.map fun t => .string (strOfNums t))) (hT : Tz w) :
    Calls Tryd.prog 9 #[.slice A n c, .int .u64 m] w fun e w' => e = .returned (.tuple #[.string (strOfNums (txL ts m)), .int .i64 (nmW ts m)]) ∧ Below w.heap.size w w' := by
  have hN := Lib.hid (tag_names A n c ts hall hsz m hm w hr hT)
  have hlen := Lib.hid (txL_len (ts := ts) hm)
  have hl64 := Lib.hid (nmL_len ts m)
  clear hall hsz hr hT
  go_enter Tryd.func9, Tryd.ntmps9
  go_wp2_with fail
  refine hN.out.mono ?_
  rintro e w1 ⟨⟨A1, c1, rfl, hc1, hr1⟩, hb1⟩
  have hJ := Lib.hid (join_plus A1 _ c1 (nmL ts m) w1 hr1 hc1 hl64.out (by have := hlen.out; unfold txL at this; omega))
  have HB1 := Lib.hid hb1
  clear hb1 hr1 hc1 hN
  go_wp2_with fail
  refine hJ.out.mono ?_
  rintro e w2 ⟨rfl, hb2⟩
  have HB2 := Lib.hid (HB1.out.trans (hb2.mono HB1.out.size))
  clear hb2
  go_wp2_with fail
  refine bodyPost_ret (v := .tuple #[.string (strOfNums (joinP (nmL ts m))), .int .i64 (nmW ts m)]) (by simp [results, Tryd.results9, go_sem]) rfl ?_
  exact ⟨rfl, HB2.out⟩
theorem joinP_take {l : List (List Int)} {j : Nat} (hj : j < l.length) (h0 : 0 < j) : joinP (l.take (j + 1)) = joinP (l.take j) ++ [43] ++ tg l j := by
  rw [take_tg hj, joinP_snoc _ _ (by
    intro e
    have := congrArg List.length e
    rw [List.length_take, List.length_nil] at this
    omega)]
  simp
theorem joinP_take1 {l : List (List Int)} (hj : 0 < l.length) : joinP (l.take 1) = tg l 0 := by
  have := take_tg hj
  rw [show (0 : Nat) + 1 = 1 by rfl] at this
  rw [this]
  simp [joinP, joinT]
set_option maxRecDepth 100000 in
set_option maxHeartbeats 2000000 in
theorem ref_text (A : Option Addr) (n c : Nat) (ts : List (List Int)) (hall : ∀ t ∈ ts, Bytes t) (hsz : ∀ t ∈ ts, t.length ≤ 9223372036854775807) (m : Nat) (hm : m < 18446744073709551616) (w : World) (hr : Rd w w.heap.size A n (ts.map fun t => .string (strOfNums t))) :
    Calls Tryd.prog 10 #[.slice A n c, .int .u64 m] w fun e w' => e = .returned (.tuple #[.string (strOfNums (txL ts m)), .int .i64 (nmW ts m)]) ∧ Below w.heap.size w w' := by
  have hN := Lib.hid (ref_names A n c ts hall hsz m hm w hr)
  have hl64 := nmL_len ts m
  have HA := Lib.hid (nmL_bytes hm hall)
  have HN := Lib.hid (fun t ht => name_len (nmL_mem (ts := ts) hm (t := t) ht).2.1)
  obtain ⟨l, hl⟩ : ∃ l, nmL ts m = l := ⟨_, rfl⟩
  have htx : txL ts m = joinP l := by unfold txL; rw [hl]
  obtain ⟨z, hz⟩ : ∃ z, nmW ts m = z := ⟨_, rfl⟩
  rw [hl] at hN hl64 HA HN
  rw [hz] at hN
  rw [htx, hz]
  clear hall hsz hr htx hl hz
  obtain ⟨k, hk⟩ : ∃ k, l.length = k := ⟨_, rfl⟩
  go_enter Tryd.func10, Tryd.ntmps10
  go_wp2_with fail
  refine hN.out.mono ?_
  rintro e w1 ⟨⟨A1, c1, rfl, hc1, hr1⟩, hb1⟩
  rw [hk] at hr1 hl64 ⊢
  have HB1 := Lib.hid hb1
  have HR := Lib.hid hr1
  have HK := Lib.hid hk
  have HZT : Hid (∀ j, j < l.length → (tg l j).length ≤ 32) := fun j hj => HN.out _ (tg_mem hj)
  have HZ : Hid (∀ j, j ≤ k → (joinP (l.take j)).length ≤ 2112) := fun j hj => by
    have h1 := len_joinP (l.take j) 32 fun t ht => HN.out t (List.mem_of_mem_take ht)
    have h2 : (l.take j).length ≤ 64 := by rw [List.length_take]; omega
    have : (l.take j).length * (32 + 1) ≤ 64 * 33 := Nat.mul_le_mul_right _ h2
    omega
  clear hb1 hr1 hc1 hN hk
  go_wp2_with fail
  go_loopw [8, 19] (fun v i wr => ∃ (j : Nat), j ≤ k ∧ i = .int .i64 j ∧ v = .string (strOfNums (joinP (l.take j))) ∧ w1 = wr) (fun _ i _ => k - (intOf i).toNat)
  case atStart => exact ⟨0, Nat.zero_le _, rfl, rfl, rfl⟩
  case round =>
    obtain ⟨j, hj, rfl, rfl, rfl⟩ := hrel
    by_cases hlt : j < k
    · have hjl : j < l.length := by have := HK.out; omega
      obtain ⟨b, o, rfl, hbl, hc1⟩ := HR.out.atS hlt
      by_cases h0 : 0 < j
      · have t0 : decide (0 < j) = true := by simp; omega
        have t0' : decide ((j : Int) > 0) = true := by simp; omega
        have hs1 := str_append (joinP (l.take j)) [43]
        have hs2 := str_append (joinP (l.take j) ++ [43]) (tg l j)
        have e43 : strOfNums [43] = ⟨#[43]⟩ := rfl
        rw [e43] at hs1
        have hz1 : (9223372036854775807 < (strOfNums (joinP (l.take j))).size + 1) = False := by
          rw [strOfNums_size, eq_iff_iff, iff_false]; have := HZ.out j hj; omega
        have hz2 : (9223372036854775807 < (strOfNums (joinP (l.take j) ++ [43])).size + (strOfNums (tg l j)).size) = False := by
          rw [strOfNums_size, strOfNums_size, eq_iff_iff, iff_false, List.length_append]; have := HZ.out j hj; have := HZT.out j hjl; simp; omega
        rw [← joinP_take hjl h0] at hs2
        clear h0 e43
        go_wp2_with fail
        go_roundw
        case rel => exact ⟨j + 1, hlt, by go_num, by first | rfl | rw [← hs2, ← hs1], by trivial⟩
        case measure => simp [intOf]; omega
      · have t0 : decide (0 < j) = false := by simp; omega
        have t0' : decide ((j : Int) > 0) = false := by simp; omega
        have hs1 : Hid (strOfNums (joinP (l.take j)) ++ strOfNums (tg l j) = strOfNums (joinP (l.take (j + 1)))) := by
          have e : j = 0 := by omega
          subst e
          show _ = _
          rw [str_append, joinP_take1 hjl]; rfl
        have hz1 : (9223372036854775807 < (strOfNums (joinP (l.take j))).size + (strOfNums (tg l j)).size) = False := by
          rw [strOfNums_size, strOfNums_size, eq_iff_iff, iff_false]; have := HZ.out j hj; have := HZT.out j hjl; omega
        clear h0
        go_wp2_with fail
        go_roundw
        case rel => exact ⟨j + 1, hlt, by go_num, by rw [← hs1.out], by trivial⟩
        case measure => simp [intOf]; omega
    · obtain rfl : j = k := by omega
      have e : l.take j = l := List.take_of_length_le (by rw [HK.out]; exact Nat.le_refl _)
      rw [e]
      clear e
      go_wp2_with fail
      refine bodyPost_ret (v := .tuple #[.string (strOfNums (joinP l)), .int .i64 z]) (by simp [results, Tryd.results10, go_sem]) rfl ?_
      exact ⟨rfl, HB1.out⟩
end Go.Proofs.YtokgcjhlmohjgaaDoor
