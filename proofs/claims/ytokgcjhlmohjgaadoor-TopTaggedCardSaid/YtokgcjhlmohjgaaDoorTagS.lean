/- Tables of tags: slices.Index, the document's name and Check. -/
import Derived.Test.YtokgcjhlmohjgaaDoorTagR
namespace Go.Proofs.YtokgcjhlmohjgaaDoor
open Go.RowKit
set_option maxRecDepth 100000 in
set_option maxHeartbeats 1000000 in
theorem sl_index (A : Option Addr) (m c : Nat) (ts : List (List Int)) (hall : ∀ t ∈ ts, Bytes t) (t : List Int) (ht : Bytes t) (w : World) (B : Nat) (hr : Rd w B A m (ts.map fun t => .string (strOfNums t))) (hm : m ≤ 4611686018427387904) :
    Calls Tryd.prog 23 #[.slice A m c, .string (strOfNums t)] w fun e w' => e = .returned (.int .i64 (fiE ts t)) ∧ w = w' := by
  have hml : ts.length = m := by simpa using hr.1
  have HR := Lib.hid hr
  have HA := Lib.hid hall
  have HT := Lib.hid ht
  have HL := Lib.hid hml
  clear hr hall hml ht
  go_enter Tryd.func23, Tryd.ntmps23
  go_wp2_with fail
  go_loopw [8] (fun v wr => ∃ j : Nat, j ≤ m ∧ v = .int .i64 j ∧ wr = w ∧ Hid (∀ q, q < j → tg ts q ≠ t)) (fun v _ => m - (intOf v).toNat)
  case atStart => exact ⟨0, Nat.zero_le _, rfl, rfl, (show ∀ q, q < 0 → _ from fun q hq => absurd hq (by omega))⟩
  case round =>
    obtain ⟨j, hj, rfl, rfl, hv⟩ := hrel
    by_cases hlt : j < m
    · have hjl : j < ts.length := by have := HL.out; omega
      obtain ⟨b, o, rfl, hbl, hc1⟩ := HR.out.atS hlt
      have heq := str_toList t (tg ts j) HT.out (HA.out _ (tg_mem hjl))
      by_cases he : tg ts j = t
      · rw [decide_eq_true he.symm] at heq
        have HE := Lib.hid (fi_hit hjl hv.out he)
        clear he
        go_wp2_with fail
        go_ret
        exact ⟨by rw [HE.out]; rfl, rfl⟩
      · rw [decide_eq_false (fun h => he h.symm)] at heq
        have HE := Lib.hid (lt_step hv.out he)
        clear he
        go_wp2_with fail
        go_roundw
        case rel => exact ⟨j + 1, hlt, by go_num, by trivial, HE⟩
        case measure => simp [intOf]; omega
    · obtain rfl : j = m := by omega
      have HE : Hid (fiE ts t = -1) := fi_miss (by rw [HL.out]; exact hv.out)
      go_wp2_with fail
      go_ret
      exact ⟨by rw [HE.out]; rfl, rfl⟩
theorem meas_step {n k : Nat} (h : k < n) (e : wrap64 ((k : Int) + 1) = ((k + 1 : Nat) : Int)) : n - (intOf (.int .i64 (wrap64 ((k : Int) + 1)))).toNat < n - (intOf (.int .i64 (k : Int))).toNat := by
  rw [e]
  show n - (k + 1) < n - k
  omega
theorem okC_cases2 (x : Int) :
    (okC x = true ∧ ((decide (x < 97) = false ∧ decide (x > 122) = false) ∨ (decide (x < 97) = true ∧ decide (x < 48) = false ∧ decide (x > 57) = false) ∨ (decide (x < 97) = true ∧ decide (x < 48) = true ∧ (x != 45) = false))) ∨
    (okC x = false ∧ ((decide (x < 97) = false ∧ decide (x > 122) = true ∧ decide (x < 48) = false ∧ decide (x > 57) = true ∧ (x != 45) = true) ∨ (decide (x < 97) = true ∧ decide (x < 48) = false ∧ decide (x > 57) = true ∧ (x != 45) = true) ∨
      (decide (x < 97) = true ∧ decide (x < 48) = true ∧ (x != 45) = true))) := by
  unfold okC
  by_cases h1 : x < 97
  · by_cases h2 : x < 48
    · by_cases h3 : x = 45
      · left; refine ⟨by simp; omega, Or.inr (Or.inr ⟨by simp; omega, by simp; omega, by simp; omega⟩)⟩
      · right; refine ⟨by simp; omega, Or.inr (Or.inr ⟨by simp; omega, by simp; omega, by simp; omega⟩)⟩
    · by_cases h3 : x > 57
      · right; refine ⟨by simp; omega, Or.inr (Or.inl ⟨by simp; omega, by simp; omega, by simp; omega, by simp; omega⟩)⟩
      · left; refine ⟨by simp; omega, Or.inr (Or.inl ⟨by simp; omega, by simp; omega, by simp; omega⟩)⟩
  · by_cases h2 : x > 122
    · right; refine ⟨by simp; omega, Or.inl ⟨by simp; omega, by simp; omega, by simp; omega, by simp; omega, by simp; omega⟩⟩
    · left; refine ⟨by simp; omega, Or.inl ⟨by simp; omega, by simp; omega⟩⟩
set_option maxRecDepth 100000 in
set_option maxHeartbeats 2000000 in
theorem ref_name (t : List Int) (ht : Bytes t) (hl : t.length ≤ 9223372036854775807) (w : World) :
    Calls Tryd.prog 29 #[.string (strOfNums t)] w fun e w' => e = .returned (.bool (nameB t)) ∧ w = w' := by
  have hss := strOfNums_size t
  have HT := Lib.hid ht
  have HL := Lib.hid hl
  clear ht hl
  go_enter Tryd.func29, Tryd.ntmps29
  go_wp2_with fail
  go_loopw [3] (fun v wr => ∃ k : Nat, k ≤ t.length ∧ v = .int .i64 k ∧ wr = w ∧ Hid (∀ j, j < k → okC (ig t j) = true)) (fun v _ => t.length - (intOf v).toNat)
  case atStart => exact ⟨0, Nat.zero_le _, rfl, rfl, (show ∀ j, j < 0 → _ from fun j hj => absurd hj (by omega))⟩
  case round =>
    obtain ⟨k, hk, rfl, rfl, hv⟩ := hrel
    by_cases hlt : k < t.length
    · obtain ⟨x, hx⟩ : ∃ x, ig t k = x := ⟨_, rfl⟩
      have hg : ∀ h : k < (strOfNums t).size, (((strOfNums t)[k]'h).toNat : Int) = x := fun h => (str_get t HT.out k h).trans hx
      have HX := Lib.hid hx
      have HK : Hid (wrap64 ((k : Int) + 1) = ((k + 1 : Nat) : Int)) := by show _ = _; have := HL.out; rw [Int.natCast_succ]; exact IntWalk.wrap64_in _ ⟨by omega, by omega⟩
      clear hx
      rcases okC_cases2 x with ⟨ho, c | c | c⟩ | ⟨ho, c | c | c⟩
      · have hstep := Lib.hid (all_step hv.out (by rw [HX.out]; exact ho))
        obtain ⟨c1, c2⟩ := c
        clear ho
        go_wp2_with fail
        go_roundw
        case rel => exact ⟨k + 1, hlt, by rw [HK.out], by trivial, hstep⟩
        case measure => exact meas_step hlt HK.out
      · have hstep := Lib.hid (all_step hv.out (by rw [HX.out]; exact ho))
        obtain ⟨c1, c2, c3⟩ := c
        clear ho
        go_wp2_with fail
        go_roundw
        case rel => exact ⟨k + 1, hlt, by rw [HK.out], by trivial, hstep⟩
        case measure => exact meas_step hlt HK.out
      · have hstep := Lib.hid (all_step hv.out (by rw [HX.out]; exact ho))
        obtain ⟨c1, c2, c3⟩ := c
        clear ho
        go_wp2_with fail
        go_roundw
        case rel => exact ⟨k + 1, hlt, by rw [HK.out], by trivial, hstep⟩
        case measure => exact meas_step hlt HK.out
      · have hbad := Lib.hid (name_bad hlt (by rw [HX.out]; exact ho))
        obtain ⟨c1, c2, c3, c4, c5⟩ := c
        clear ho
        go_wp2_with fail
        go_ret
        exact ⟨ret_bool hbad.out.symm, rfl⟩
      · have hbad := Lib.hid (name_bad hlt (by rw [HX.out]; exact ho))
        obtain ⟨c1, c2, c3, c4⟩ := c
        clear ho
        go_wp2_with fail
        go_ret
        exact ⟨ret_bool hbad.out.symm, rfl⟩
      · have hbad := Lib.hid (name_bad hlt (by rw [HX.out]; exact ho))
        obtain ⟨c1, c2, c3⟩ := c
        clear ho
        go_wp2_with fail
        go_ret
        exact ⟨ret_bool hbad.out.symm, rfl⟩
    · obtain rfl : k = t.length := by omega
      have HN : Hid (nameB t = (t != [] && decide (t.length ≤ 32))) := name_end hv.out
      by_cases h1 : 1 ≤ t.length
      · have HR : Hid (nameB t = decide ((t.length : Int) ≤ 32)) := by
          show _ = _
          rw [HN.out, show (t != []) = true from bne_iff_ne.2 (by rintro rfl; simp at h1), Bool.true_and]
          congr 1
          exact propext ⟨fun h => by omega, fun h => by omega⟩
        go_wp2_with fail
        go_ret
        exact ⟨ret_bool HR.out.symm, rfl⟩
      · have HR : Hid (nameB t = false) := by
          show _ = _
          rw [HN.out, show t = [] from List.eq_nil_of_length_eq_zero (by omega)]; rfl
        go_wp2_with fail
        go_ret
        exact ⟨ret_bool HR.out.symm, rfl⟩
end Go.Proofs.YtokgcjhlmohjgaaDoor
