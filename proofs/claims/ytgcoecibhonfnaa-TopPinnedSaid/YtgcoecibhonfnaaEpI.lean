/- What may be used again: IndexFunc with the closure of Free. -/
import Derived.Test.YtgcoecibhonfnaaEpF
namespace Go.Proofs.Ytgcoecibhonfnaa
open Go.RowKit
theorem OutAt.below {w w' : World} {base bo : Nat} {outs : List Int} (h : OutAt w base bo outs) (hb : Below w.heap.size w w') : OutAt w' base bo outs := h.keep fun k _ hk => hb.block k hk
/-- What IndexFunc tells with the closure of Free. -/
def FreeIdx (fl : List Int) (e : Int) (m : Nat) (outs : List Int) (base bo : Nat) (r : Int) (w' : World) : Prop :=
  (r = -1 ∧ (∀ k, k < m → ripe fl e k = false) ∧ OutAt w' base bo outs) ∨ ∃ i : Nat, i < m ∧ r = i ∧ (∀ k, k < i → ripe fl e k = false) ∧ ripe fl e i = true ∧ OutAt w' base bo (outs ++ [ig fl (i * 2)])
set_option maxRecDepth 100000 in
set_option maxHeartbeats 1000000 in
theorem idx_free (A : Option Addr) (m d b c bo base : Nat) (fl : List Int) (e : Int) (outs : List Int) (w : World)
    (hr : ∀ wx, Tch (outS base bo) w wx → Rd2 wx wx.heap.size A m fl) (hm : m ≤ 1048576) (he0 : 0 ≤ e) (he1 : e ≤ 4611686018427387904)
    (hc : ∀ wx, Tch (outS base bo) w wx → wx.cell? ⟨b, 0, none⟩ = some (.pointer (some ⟨c, 0, none⟩)))
    (he : ∀ wx, Tch (outS base bo) w wx → wx.cell? ⟨c, 0, none⟩ = some (.int .i64 e))
    (ho : OutAt w base bo outs) (hbo : bo < base) (hbw : base ≤ w.heap.size) (hol : outs.length ≤ 1048576) :
    Calls Try.prog 27 #[.slice A m d, .func (.func 23) #[] #[.pointer (some ⟨b, 0, none⟩), .pointer (some ⟨bo, 0, none⟩)]] w
      fun en w' => ∃ r : Int, en = .returned (.int .i64 r) ∧ FreeIdx fl e m outs base bo r w' ∧ Tch (outS base bo) w w' := by
  have HR := Lib.hid hr
  have HC := Lib.hid hc
  have HE := Lib.hid he
  have HO := Lib.hid ho
  have HBO := Lib.hid hbo
  have HBW := Lib.hid hbw
  have HOL := Lib.hid hol
  have HE0 := Lib.hid he0
  have HE1 := Lib.hid he1
  clear hr hc he ho hbo hbw hol he0 he1
  go_enter Try.func27, Try.ntmps27
  go_wp2
  go_loopw [8] (fun i wx => ∃ k : Nat, k ≤ m ∧ i = .int .i64 k ∧ Hid (∀ j, j < k → ripe fl e j = false) ∧ Hid (OutAt wx base bo outs) ∧ Hid (Tch (outS base bo) w wx)) (fun i _ => m - (intOf i).toNat)
  case atStart => exact ⟨0, Nat.zero_le _, rfl, (show ∀ j, j < 0 → _ from fun j hj => absurd hj (by omega)), HO, Tch.refl _ _⟩
  case round =>
    obtain ⟨k, hk, rfl, hv, HOx, HT⟩ := hrel
    by_cases hlt : k < m
    · obtain ⟨b', o, rfl, _, hc1, hc2⟩ := (HR.out wr HT.out).at_ hlt
      have hcb := HC.out wr HT.out
      have hce := HE.out wr HT.out
      have hrp : ripe fl e k = decide (ig fl (k * 2 + 1) ≤ e - 2) := rfl
      obtain ⟨x, hx⟩ : ∃ x, ig fl (k * 2) = x := ⟨_, rfl⟩
      obtain ⟨y, hy⟩ : ∃ y, ig fl (k * 2 + 1) = y := ⟨_, rfl⟩
      rw [hx] at hc1
      rw [hy] at hc2 hrp
      cases hq : decide (y ≤ e - 2) with
      | true =>
        rw [hq] at hrp
        have HA : Hid (ripe fl e k = true) := hrp
        have HK := Lib.hid (free_cl_yes x y e b c bo base outs wr hcb hce HE0.out HE1.out hq HOx.out HBO.out (Nat.le_trans HBW.out HT.out.size) HOL.out)
        have HX := Lib.hid hx
        clear hrp hq hx hy hcb hce
        go_wp2_with fail
        refine HK.out.mono ?_
        rintro en w' ⟨rfl, ho', ht'⟩
        have HO' := Lib.hid ho'
        have HT' := Lib.hid ht'
        clear ho' ht'
        go_wp2_with fail
        go_ret
        exact ⟨_, rfl, Or.inr ⟨k, hlt, rfl, hv.out, HA.out, by rw [HX.out]; exact HO'.out⟩, HT.out.trans HT'.out (fun _ h => Or.inl h)⟩
      | false =>
        rw [hq] at hrp
        have HV : Hid (∀ j, j < k + 1 → ripe fl e j = false) := by
          intro j hj
          by_cases h : j = k
          · rw [h]; exact hrp
          · exact hv.out j (by omega)
        have HK := Lib.hid (free_cl_no x y e b c bo wr hcb hce HE0.out HE1.out hq)
        clear hrp hq hx hy hcb hce
        go_wp2_with fail
        refine HK.out.mono ?_
        rintro en w' ⟨rfl, hb'⟩
        have HB' := Lib.hid hb'
        clear hb'
        go_wp2_with fail
        go_roundw
        case rel => exact ⟨k + 1, by omega, by go_num, HV, HOx.out.below HB'.out, HT.out.trans (Tch.of_below HB'.out) (fun _ h => Or.inl h)⟩
        case measure => simp [intOf]; omega
    · obtain rfl : k = m := by omega
      go_wp2
      go_ret
      exact ⟨_, rfl, Or.inl ⟨rfl, hv.out, HOx.out⟩, HT.out⟩
end Go.Proofs.Ytgcoecibhonfnaa
