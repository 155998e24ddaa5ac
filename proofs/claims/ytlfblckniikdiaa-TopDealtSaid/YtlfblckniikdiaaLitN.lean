/- Walks: a number read from a text, in the program and in the reference. -/
import Derived.Test.YtlfblckniikdiaaLitW
namespace Go.Proofs.Ytlfblckniikdiaa
open Go.RowKit
theorem drop_at {l : List Int} {k : Nat} (h : k < l.length) : l.drop k = ig l k :: l.drop (k + 1) := by
  rw [List.drop_eq_getElem_cons h, ig, List.getD_eq_getElem?_getD, List.getElem?_eq_getElem h]; rfl
set_option maxRecDepth 100000 in
set_option maxHeartbeats 2000000 in
theorem lit_number (l : List Int) (hl : Bytes l) (_hn : l.length ≤ 9223372036854775807) (w : World) :
    Calls Try.prog 30 #[.string (strOfNums l)] w fun e w' => e = .returned (.tuple #[.int .u64 (numOf l).1, .int .i64 (numOf l).2.1, .int .i64 (numOf l).2.2]) ∧ Below w.heap.size w w' := by
  obtain ⟨c, W, hcv, hcell, hb⟩ := conv_bytes (P := Try.prog) Try.underlying9 Try.underlying53 Try.underlying5 l hl w
  have HC := Lib.hid hcell
  clear hcell
  go_enter Try.func30, Try.ntmps30
  go_wp2
  clear hcv
  go_loop [2, 10] (fun x i => ∃ k acc : Nat, k ≤ l.length ∧ k ≤ 10 ∧ i = .int .i64 k ∧ x = .int .u64 acc ∧ Hid (k ≤ 9 → acc < 2 ^ (7 * k)) ∧ Hid (numFrom (l.drop k) k acc = numOf l)) (fun _ i => (l.length - intOf i).toNat)
  case atStart => exact ⟨0, 0, Nat.zero_le _, Nat.zero_le _, rfl, rfl, fun _ => by decide, rfl⟩
  case round =>
    obtain ⟨k, acc, hk, hk10, rfl, rfl, hacc, hv⟩ := hrel
    by_cases hlt : k < l.length
    · obtain ⟨b0, b1⟩ := hl.at_ k
      obtain ⟨b, hbb⟩ := Int.eq_ofNat_of_zero_le (show 0 ≤ ig l k from b0)
      have hb256 : b < 256 := by have : ig l k < 256 := b1; omega
      have hc := HC.out k hlt
      rw [hbb] at hc
      have hd := drop_at hlt
      rw [hbb] at hd
      obtain ⟨x, hx⟩ : ∃ x, b % 128 = x := ⟨_, rfl⟩
      have hx128 : x < 128 := by omega
      have h127 : bits .and .u8 (b : Int) 127 = (x : Int) := by rw [← hx]; exact and127 b hb256
      have HN := numFrom_step b x k acc (l.drop (k + 1)) hx
      rw [← hd] at HN
      have HNN := Lib.hid HN
      clear HN
      clear hd b0 b1 hbb
      have HX := Lib.hid hx
      clear hx
      by_cases k10 : k = 10
      · have HR : Hid (numOf l = (0, 0, 7)) := by show _ = _; rw [← hv.out, HNN.out, if_pos (.inl k10)]
        have t10 : ((k : Int) == 10) = true := by simp [k10]
        clear k10
        go_wp2
        go_ret3
        exact ⟨by rw [HR.out]; rfl, hb⟩
      · have t10 : ((k : Int) == 10) = false := by simp; omega
        have hk9 : k ≤ 9 := by omega
        by_cases e9 : k = 9 ∧ 1 < x
        · have HR : Hid (numOf l = (0, 0, 7)) := by show _ = _; rw [← hv.out, HNN.out, if_pos (.inr e9)]
          have t9 : ((k : Int) == 9) = true := by simp [e9.1]
          have tx : decide (1 < (x : Int)) = true := by simp; omega
          clear e9 k10
          go_wp2
          go_ret3
          exact ⟨by rw [HR.out]; rfl, hb⟩
        · have h9 : k = 9 → x ≤ 1 := fun h => by omega
          have ho := or_step hk9 (hacc.out hk9) hx128 h9
          have hacc' := Lib.hid (acc_bd (hacc.out hk9) hx128)
          obtain ⟨y, hy⟩ : ∃ y, acc + x * 2 ^ (7 * k) = y := ⟨_, rfl⟩
          rw [hy] at ho hacc' HNN
          have HV : Hid (numOf l = _) := (by rw [← hv.out, HNN.out, if_neg (by rintro (q | q); exact k10 q; exact e9 q)] : numOf l = if (128 : Int) ≤ b then numFrom (l.drop (k + 1)) (k + 1) y else if (b : Int) = 0 ∧ 0 < k then (0, 0, 7) else (y, k + 1, 0))
          have T : Hid ((((k : Int) == 9) = true ∧ decide (1 < (x : Int)) = false) ∨ ((k : Int) == 9) = false) := by
            by_cases q : k = 9
            · exact .inl ⟨by simp [q], by have := h9 q; simp; omega⟩
            · exact .inr (by simp; omega)
          clear hy h9 e9 k10
          by_cases hb128 : 128 ≤ b
          · have HR : Hid (numFrom (l.drop (k + 1)) (k + 1) y = numOf l) := by show _ = _; rw [HV.out, if_pos (by omega)]
            rcases T.out with ⟨t9, tx⟩ | t9
            all_goals
              go_wp2
              go_round
              case rel => exact ⟨k + 1, y, by omega, by omega, by go_num, rfl, fun _ => hacc'.out, HR.out⟩
              case measure => simp [intOf]; omega
          · by_cases hz : b = 0 ∧ 0 < k
            · have HR : Hid (numOf l = (0, 0, 7)) := by show _ = _; rw [HV.out, if_neg (by omega), if_pos ⟨by omega, hz.2⟩]
              have tb : ((b : Int) == 0) = true := by simp [hz.1]
              have tk : decide (0 < k) = true := by simp; omega
              clear hz
              rcases T.out with ⟨t9, tx⟩ | t9
              all_goals
                go_wp2
                go_ret3
                exact ⟨by rw [HR.out]; rfl, hb⟩
            · have HR : Hid (numOf l = (y, k + 1, 0)) := by show _ = _; rw [HV.out, if_neg (by omega), if_neg (fun h => hz ⟨by omega, h.2⟩)]
              have TZ : Hid ((((b : Int) == 0) = true ∧ decide (0 < k) = false) ∨ ((b : Int) == 0) = false) := by
                by_cases q : b = 0
                · exact .inl ⟨by simp [q], by simp; omega⟩
                · exact .inr (by simp; omega)
              clear hz
              rcases T.out with ⟨t9, tx⟩ | t9 <;> rcases TZ.out with ⟨tb, tk⟩ | tb
              all_goals
                go_wp2
                go_ret3
                exact ⟨by rw [HR.out]; rfl, hb⟩
    · have HR : Hid (numOf l = (0, 0, 8)) := by show _ = _; rw [← hv.out, List.drop_of_length_le (by omega)]; rfl
      go_wp2
      go_ret3
      exact ⟨by rw [HR.out]; rfl, hb⟩
end Go.Proofs.Ytlfblckniikdiaa
