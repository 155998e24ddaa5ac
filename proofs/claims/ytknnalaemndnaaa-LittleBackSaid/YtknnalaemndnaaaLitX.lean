/- Walks: a number read by the reference. -/
import Derived.Test.YtknnalaemndnaaaLitN
namespace Go.Proofs.Ytknnalaemndnaaa
open Go.RowKit
theorem ref_next_bad (l : List Int) (why : Int) (hz : (why != 0) = true) (w : World) :
    Calls Try.prog 28 #[.agg #[.string (strOfNums l), .int .i64 why]] w fun e w' => e = .returned (.tuple #[.agg #[.string (strOfNums l), .int .i64 why], .int .u64 0]) ∧ Below w.heap.size w w' := by
  go_enter Try.func28, Try.ntmps28
  go_wp2
  refine bodyPost_ret (v := .tuple #[.agg #[.string (strOfNums l), .int .i64 why], .int .u64 0]) (by simp [results, Try.results28, go_sem]) rfl ⟨rfl, ?_⟩
  exact ((Below.refl _ _).alloc (Nat.le_refl _) _).alloc (by simp) _
set_option maxRecDepth 100000 in
set_option maxHeartbeats 4000000 in
theorem ref_next (l : List Int) (hl : Bytes l) (_hn : l.length ≤ 9223372036854775807) (w : World) :
    Calls Try.prog 28 #[.agg #[.string (strOfNums l), .int .i64 0]] w fun e w' => e = .returned (.tuple #[.agg #[.string (strOfNums (l.drop (numOf l).2.1)), .int .i64 (numOf l).2.2], .int .u64 (numOf l).1]) ∧ Below w.heap.size w w' := by
  have hss := strOfNums_size l
  have hex : ∀ a, (strOfNums l).extract a l.length = strOfNums (l.drop a) := fun a => by rw [str_extract, ← List.length_drop, List.take_length]
  go_enter Try.func28, Try.ntmps28
  go_wp2
  go_loop [4, 5] (fun x i => ∃ k acc : Nat, k ≤ l.length ∧ k ≤ 10 ∧ i = .int .i64 k ∧ x = .int .u64 acc ∧ Hid (k ≤ 9 → acc < 2 ^ (7 * k)) ∧ Hid (numFrom (l.drop k) k acc = numOf l)) (fun _ i => (l.length - intOf i).toNat)
  case atStart => exact ⟨0, 0, Nat.zero_le _, Nat.zero_le _, rfl, rfl, fun _ => by decide, rfl⟩
  case round =>
    obtain ⟨k, acc, hk, hk10, rfl, rfl, hacc, hv⟩ := hrel
    by_cases hlt : k < l.length
    · obtain ⟨b0, b1⟩ := hl.at_ k
      obtain ⟨b, hbb⟩ := Int.eq_ofNat_of_zero_le (show 0 ≤ ig l k from b0)
      have hb256 : b < 256 := by have : ig l k < 256 := b1; omega
      have hg : ∀ h : k < (strOfNums l).size, (((strOfNums l)[k]'h).toNat : Int) = (b : Int) := fun h => (str_get l hl k h).trans hbb
      have hd := drop_at hlt
      rw [hbb] at hd
      obtain ⟨x, hx⟩ : ∃ x, b % 128 = x := ⟨_, rfl⟩
      have hx128 : x < 128 := by omega
      have hbx : (b : Int) % 128 = (x : Int) := by omega
      have HN := numFrom_step b x k acc (l.drop (k + 1)) hx
      rw [← hd] at HN
      have HNN := Lib.hid HN
      clear HN
      clear hd b0 b1 hbb
      have HX := Lib.hid hx
      clear hx
      by_cases k10 : k = 10
      · have HR : Hid (numOf l = (0, 0, 7)) := by show _ = _; rw [← hv.out, HNN.out, if_pos (.inl k10)]
        have t9 : ((k : Int) == 9) = false := by simp; omega
        have t10 : decide (9 < (k : Int)) = true := by simp; omega
        clear k10
        go_wp2
        refine bodyPost_ret (v := .tuple #[.agg #[.string (strOfNums l), .int .i64 7], .int .u64 0]) (by simp [results, Try.results28, go_sem]) rfl ⟨by rw [HR.out]; rfl, ((Below.refl _ _).alloc (Nat.le_refl _) _).alloc (by simp) _⟩
      · have t10 : decide (9 < (k : Int)) = false := by simp; omega
        have hk9 : k ≤ 9 := by omega
        by_cases e9 : k = 9 ∧ 1 < x
        · have HR : Hid (numOf l = (0, 0, 7)) := by show _ = _; rw [← hv.out, HNN.out, if_pos (.inr e9)]
          have t9 : ((k : Int) == 9) = true := by simp [e9.1]
          have tx : decide (1 < (x : Int)) = true := by simp; omega
          clear e9 k10
          go_wp2
          refine bodyPost_ret (v := .tuple #[.agg #[.string (strOfNums l), .int .i64 7], .int .u64 0]) (by simp [results, Try.results28, go_sem]) rfl ⟨by rw [HR.out]; rfl, ((Below.refl _ _).alloc (Nat.le_refl _) _).alloc (by simp) _⟩
        · have h9 : k = 9 → x ≤ 1 := fun h => by omega
          have ho := add_step hk9 (hacc.out hk9) hx128 h9
          have hacc' := Lib.hid (acc_bd (hacc.out hk9) hx128)
          obtain ⟨y, hy⟩ : ∃ y, acc + x * 2 ^ (7 * k) = y := ⟨_, rfl⟩
          rw [hy] at ho hacc' HNN
          have HV : Hid (numOf l = _) := (by rw [← hv.out, HNN.out, if_neg (by rintro (q | q); exact k10 q; exact e9 q)] : numOf l = if (128 : Int) ≤ b then numFrom (l.drop (k + 1)) (k + 1) y else if (b : Int) = 0 ∧ 0 < k then (0, 0, 7) else (y, k + 1, 0))
          have T : Hid ((((k : Int) == 9) = true ∧ decide (1 < (x : Int)) = false) ∨ ((k : Int) == 9) = false) := by
            by_cases q : k = 9
            · exact .inl ⟨by simp [q], by have := h9 q; simp; omega⟩
            · exact .inr (by simp; omega)
          clear hy h9 e9 k10
          by_cases hb128 : 128 ≤ b
          · have HR : Hid (numFrom (l.drop (k + 1)) (k + 1) y = numOf l) := by show _ = _; rw [HV.out, if_pos (by omega)]
            rcases T.out with ⟨t9, tx⟩ | t9
            all_goals
              go_wp2
              go_round
              case rel => exact ⟨k + 1, y, by omega, by omega, by go_num, rfl, fun _ => hacc'.out, HR.out⟩
              case measure => simp [intOf]; omega
          · have hxb : x = b := by have := HX.out; omega
            subst hxb
            by_cases hz : x = 0 ∧ 0 < k
            · have HR : Hid (numOf l = (0, 0, 7)) := by show _ = _; rw [HV.out, if_neg (by omega), if_pos ⟨by omega, hz.2⟩]
              have tb : ((x : Int) == 0) = true := by simp [hz.1]
              have tk : decide (0 < k) = true := by simp; omega
              clear hz
              rcases T.out with ⟨t9, tx⟩ | t9
              all_goals
                go_wp2
                refine bodyPost_ret (v := .tuple #[.agg #[.string (strOfNums l), .int .i64 7], .int .u64 0]) (by simp [results, Try.results28, go_sem]) rfl ⟨by rw [HR.out]; rfl, ((Below.refl _ _).alloc (Nat.le_refl _) _).alloc (by simp) _⟩
            · have HR : Hid (numOf l = (y, k + 1, 0)) := by show _ = _; rw [HV.out, if_neg (by omega), if_neg (fun h => hz ⟨by omega, h.2⟩)]
              have TZ : Hid ((((x : Int) == 0) = true ∧ decide (0 < k) = false) ∨ ((x : Int) == 0) = false) := by
                by_cases q : x = 0
                · exact .inl ⟨by simp [q], by simp; omega⟩
                · exact .inr (by simp; omega)
              clear hz
              rcases T.out with ⟨t9, tx⟩ | t9 <;> rcases TZ.out with ⟨tb, tk⟩ | tb
              all_goals
                go_wp2
                refine bodyPost_ret (v := .tuple #[.agg #[.string (strOfNums (l.drop (k + 1))), .int .i64 0], .int .u64 y]) (by simp [results, Try.results28, go_sem]) rfl ⟨by rw [HR.out]; rfl, ((Below.refl _ _).alloc (Nat.le_refl _) _).alloc (by simp) _⟩
    · have HR : Hid (numOf l = (0, 0, 8)) := by show _ = _; rw [← hv.out, List.drop_of_length_le (by omega)]; rfl
      go_wp2
      refine bodyPost_ret (v := .tuple #[.agg #[.string (strOfNums l), .int .i64 8], .int .u64 0]) (by simp [results, Try.results28, go_sem]) rfl ⟨by rw [HR.out]; rfl, ((Below.refl _ _).alloc (Nat.le_refl _) _).alloc (by simp) _⟩
end Go.Proofs.Ytknnalaemndnaaa
