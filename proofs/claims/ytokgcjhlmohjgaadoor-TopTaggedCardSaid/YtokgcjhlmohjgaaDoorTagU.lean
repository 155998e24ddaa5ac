/- Tables of tags: the document's Check. -/
import Derived.Test.YtokgcjhlmohjgaaDoorTagS
namespace Go.Proofs.YtokgcjhlmohjgaaDoor
open Go.RowKit
theorem nd_step {ts : List (List Int)} {j : Nat} (hj : j < ts.length) : (ts.take (j + 1)).Nodup ↔ (ts.take j).Nodup ∧ tg ts j ∉ ts.take j := by
  rw [take_tg hj, List.nodup_append]
  simp
  intro _
  exact ⟨fun b hm => b _ hm rfl, fun b x hx e => b (e ▸ hx)⟩
theorem fi_lt {ts : List (List Int)} {j : Nat} (hj : j < ts.length) : fiE ts (tg ts j) < j ↔ tg ts j ∈ ts.take j := by
  have hm : tg ts j ∈ ts := tg_mem hj
  unfold fiE
  rw [if_pos hm]
  have hl := List.idxOf_lt_length_iff.2 hm
  constructor
  · intro h
    have h' : ts.idxOf (tg ts j) < j := by omega
    rw [List.mem_take_iff_getElem]
    exact ⟨_, by omega, List.getElem_idxOf hl⟩
  · intro h
    rw [List.mem_take_iff_getElem] at h
    obtain ⟨q, hq, e⟩ := h
    rcases Nat.lt_or_ge q (ts.idxOf (tg ts j)) with g | g
    · have := List.not_of_lt_findIdx (p := (· == tg ts j)) (xs := ts) (i := q) g
      simp [e] at this
    · have : q < j := by omega
      omega
theorem nodup_not {ts : List (List Int)} {j : Nat} (hj : j < ts.length) (h : tg ts j ∈ ts.take j) : ¬ ts.Nodup := fun hn => by
  have h1 : (ts.take (j + 1)).Nodup := hn.sublist (List.take_sublist _ _)
  exact ((nd_step hj).1 h1).2 h
set_option maxRecDepth 100000 in
set_option maxHeartbeats 2000000 in
theorem ref_check (A : Option Addr) (m c : Nat) (ts : List (List Int)) (hall : ∀ t ∈ ts, Bytes t) (hsz : ∀ t ∈ ts, t.length ≤ 9223372036854775807) (w : World) (hr : Rd w w.heap.size A m (ts.map fun t => .string (strOfNums t))) :
    Calls Tryd.prog 14 #[.slice A m c] w fun e w' => e = .returned (.int .i64 (chkE ts)) ∧ w = w' := by
  have hml : ts.length = m := by simpa using hr.1
  by_cases h64 : 64 < m
  · have t1 : decide ((m : Int) > 64) = true := by simp; omega
    have HE : Hid (chkE ts = 9) := by show _ = _; unfold chkE; rw [if_pos (by omega)]
    clear hr hml h64
    go_enter Tryd.func14, Tryd.ntmps14
    go_wp2_with fail
    go_ret
    exact ⟨by rw [HE.out]; rfl, rfl⟩
  · have t1 : decide ((m : Int) > 64) = false := by simp; omega
    have hm64 : m ≤ 64 := by omega
    have HR := Lib.hid hr
    have HA := Lib.hid hall
    have HZ := Lib.hid hsz
    have HL := Lib.hid hml
    clear hr hall hsz hml h64
    go_enter Tryd.func14, Tryd.ntmps14
    go_wp2_with fail
    go_loopw [12] (fun v wr => ∃ (j : Nat), j ≤ m ∧ v = .int .i64 j ∧ w = wr ∧ Hid (∀ q, q < j → nameB (tg ts q) = true)) (fun v _ => m - (intOf v).toNat)
    case atStart => exact ⟨0, Nat.zero_le _, rfl, rfl, (show ∀ q, q < 0 → _ from fun q hq => absurd hq (by omega))⟩
    case round =>
      obtain ⟨j, hj, rfl, rfl, H⟩ := hrel
      by_cases hlt : j < m
      · have hjl : j < ts.length := by have := HL.out; omega
        obtain ⟨b, o, rfl, hbl, hc1⟩ := HR.out.atS hlt
        have htm := tg_mem hjl
        have hby := HA.out _ htm
        have hN := Lib.hid (ref_name (tg ts j) hby (HZ.out _ htm) w)
        cases hq : nameB (tg ts j) with
        | false =>
          rw [hq] at hN
          have HE : Hid (chkE ts = 7) := by
            show _ = _
            have hf : ts.all nameB = false := by
              rw [Bool.eq_false_iff]
              intro e
              have := List.all_eq_true.1 e _ htm
              rw [hq] at this
              cases this
            unfold chkE
            rw [if_neg (by have := HL.out; omega), hf]; rfl
          clear hq hby htm
          go_wp2_with fail
          refine hN.out.mono ?_
          rintro e w2 ⟨rfl, rfl⟩
          go_wp2_with fail
          go_ret
          exact ⟨by rw [HE.out]; rfl, rfl⟩
        | true =>
          rw [hq] at hN
          have HQ := Lib.hid hq
          clear hq hby htm
          go_wp2_with fail
          refine hN.out.mono ?_
          rintro e w2 ⟨rfl, rfl⟩
          go_wp2_with fail
          go_roundw
          case rel => exact ⟨j + 1, hlt, by go_num, by trivial, fun q hq => (by
            by_cases e : q = j
            · rw [e]; exact HQ.out
            · exact H.out q (by omega))⟩
          case measure => simp [intOf]; omega
      · obtain rfl : j = m := by omega
        have hall : Hid (ts.all nameB = true) := List.all_eq_true.2 fun t ht => by
          obtain ⟨q, hq, rfl⟩ := List.getElem_of_mem ht
          have := H.out q (by have := HL.out; omega)
          simpa [tg, List.getD_eq_getElem?_getD, hq] using this
        clear H hlt hj
        go_wp2_with fail
        go_loopw [22] (fun v wr => ∃ (j' : Nat), j' ≤ j ∧ v = .int .i64 j' ∧ wr = w ∧ Hid ((ts.take j').Nodup)) (fun v _ => j - (intOf v).toNat)
        case atStart => exact ⟨0, Nat.zero_le _, rfl, rfl, (show (ts.take 0).Nodup by simp)⟩
        case round =>
          obtain ⟨k, hk, rfl, rfl, H⟩ := hrel
          by_cases hlt : k < j
          · have hjl : k < ts.length := by have := HL.out; omega
            obtain ⟨b, o, rfl, hbl, hc1⟩ := HR.out.atS hlt
            have hF := Lib.hid (ref_find (some ⟨b, o, none⟩) j c ts HA.out (tg ts k) (HA.out _ (tg_mem hjl)) wr HR.out (by omega))
            have hfl := fi_lt hjl
            obtain ⟨z, hz⟩ : ∃ z, fiE ts (tg ts k) = z := ⟨_, rfl⟩
            rw [hz] at hF hfl
            by_cases hd : tg ts k ∈ ts.take k
            · have hdz : decide (z < (k : Int)) = true := by rw [decide_eq_true_iff, hfl]; exact hd
              have HE : Hid (chkE ts = 10) := by show _ = _; unfold chkE; rw [if_neg (by have := HL.out; omega), hall.out, if_pos rfl, if_neg (nodup_not hjl hd)]
              clear hz hfl hd
              go_wp2_with fail
              refine hF.out.mono ?_
              rintro e w2 ⟨rfl, rfl⟩
              go_wp2_with fail
              go_ret
              exact ⟨by rw [HE.out]; rfl, rfl⟩
            · have hdz : decide (z < (k : Int)) = false := by rw [decide_eq_false_iff_not, hfl]; exact hd
              have HS : Hid ((ts.take (k + 1)).Nodup) := (nd_step hjl).2 ⟨H.out, hd⟩
              clear hz hfl hd
              go_wp2_with fail
              refine hF.out.mono ?_
              rintro e w2 ⟨rfl, rfl⟩
              go_wp2_with fail
              go_roundw
              case rel => exact ⟨k + 1, hlt, by go_num, by trivial, HS⟩
              case measure => simp [intOf]; omega
          · obtain rfl : k = j := by omega
            have HE : Hid (chkE ts = 0) := by
              have hn := H.out
              rw [List.take_of_length_le (by have := HL.out; omega)] at hn
              show _ = _; unfold chkE; rw [if_neg (by have := HL.out; omega), hall.out, if_pos rfl, if_pos hn]
            go_wp2_with fail
            go_ret
            exact ⟨by rw [HE.out]; rfl, rfl⟩
end Go.Proofs.YtokgcjhlmohjgaaDoor
