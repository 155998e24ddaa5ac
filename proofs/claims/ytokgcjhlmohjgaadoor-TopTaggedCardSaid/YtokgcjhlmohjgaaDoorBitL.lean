/- Walks of package bitset: a set's numbers; the least one from a number on. -/
import Derived.Test.YtokgcjhlmohjgaaDoorBitU
import Derived.Shelf.Spec.TrailingZeros
namespace Go.Proofs.YtokgcjhlmohjgaaDoor
open Go.RowKit
/-- The table that math/bits reads, as it is laid. -/
def Tz (w : World) : Prop := ∀ j, j < 64 → w.cell? ⟨0, j, none⟩ = some (.int .u8 (Lib.deBruijn64tab.getD j 0))
theorem Tz.lt {w : World} (h : Tz w) : 0 < w.heap.size := block_lt_of_cell (h 0 (by decide))
theorem Tz.below {w w' : World} (h : Tz w) (hb : Below w.heap.size w w') : Tz w' := fun j hj => (hb.cell (p := ⟨0, j, none⟩) h.lt).trans (h j hj)
set_option maxRecDepth 100000 in
set_option maxHeartbeats 1000000 in
theorem bits_tz (x : Nat) (hx : x < 18446744073709551616) (h0 : x ≠ 0) (w : World) (hT : Tz w) :
    Calls Tryd.prog 38 #[.int .u64 x] w fun e w' => e = .returned (.int .i64 (Lib.ctz 64 x)) ∧ w = w' := by
  obtain ⟨hlow, hk⟩ := Lib.lowest_bit 64 x h0 hx
  obtain ⟨hi, htab⟩ := Lib.deBruijn64_at _ hk
  have hcell := hT _ hi
  rw [htab] at hcell
  have key := tz64_key x _ hx h0 hlow
  obtain ⟨idx, hidx⟩ : ∃ i, 2 ^ Lib.ctz 64 x * 285870213051353865 % 18446744073709551616 / 288230376151711744 = i := ⟨_, rfl⟩
  obtain ⟨k, hkk⟩ : ∃ k, Lib.ctz 64 x = k := ⟨_, rfl⟩
  rw [hidx] at key hi hcell
  rw [hkk] at hcell hk ⊢
  have hx0 : ((x : Int) == 0) = false := by simp; omega
  clear hlow htab hidx hkk hT
  go_enter Tryd.func38, Tryd.ntmps38
  go_wp2_with (simp only [key])
  go_ret
  exact ⟨rfl, rfl⟩
theorem and_pred (u : Nat) (h0 : u ≠ 0) (hu : u < 18446744073709551616) : bits .and .u64 (u : Int) ((u : Int) - 1) = ((u &&& (u - 1) : Nat) : Int) := by
  rw [show (u : Int) - 1 = ((u - 1 : Nat) : Int) by omega, u64_and_nat _ _ hu (by omega)]
set_option maxRecDepth 100000 in
set_option maxHeartbeats 2000000 in
theorem bit_list (A : Option Addr) (m c : Nat) (ws : List Int) (w : World) (hr : Rd w w.heap.size A m (ws.map (.int .u64))) (hw : ∀ z ∈ ws, Word z) (hc : m ≤ c) (hz : A = none → c = 0) (hT : Tz w) :
    Calls Tryd.prog 30 #[.slice A m c] w (RetL .i64 (listE ws) w) := by
  obtain ⟨k, hk⟩ : ∃ k, k = min m 64 := ⟨_, rfl⟩
  have hcut := fun w => bit_cut A m c k hk hc hz w
  have hlen := hr.lenI
  have HE : Hid (lst (hasB ws) (k * 64) = listE ws) := listE_cut ws k (by rw [hlen]; exact hk)
  have HR := Lib.hid hr
  have HT := Lib.hid hT
  have hk64 : k ≤ 64 := by omega
  have hkm : k ≤ m := by omega
  clear hr hk hlen hz hT
  go_enter Tryd.func30, Tryd.ntmps30
  go_wp2_with (go_at_call 37; refine (hcut _).mono ?_; rintro e w' ⟨rfl, rfl⟩)
  go_loopw [3, 4, 5, 9] (fun v _ _ i wr => ∃ (j n : Nat) (B : Option Addr) (d : Nat) (cs : List Int), j ≤ k ∧ n ≤ 4096 ∧ i = .int .i64 j ∧ v = .slice B n d ∧ Hid (cs = lst (hasB ws) (j * 64)) ∧ Hid (wr.ownsRow w.heap.size 3 1 (.slice B n d) n (cs.map (.int .i64))) ∧ Hid (Below w.heap.size w wr)) (fun _ _ _ i _ => k - (intOf i).toNat)
  case atStart => exact ⟨0, 0, none, 0, [], Nat.zero_le _, by decide, rfl, rfl, rfl, World.ownsRow_nil _ _ _ _, Below.refl _ _⟩
  case round =>
    obtain ⟨j, n, B, d, cs, hj, hn, rfl, rfl, hcs, hown, hb⟩ := hrel
    by_cases hlt : j < k
    · obtain ⟨b, o, rfl, hb0, hc0⟩ := HR.out.atI (k := j) (by omega)
      have hcell := (hb.out.cell (p := ⟨b, o + j, none⟩) hb0).trans hc0
      obtain ⟨e, hlt2⟩ := wg_nat hw j
      rw [e] at hcell
      have HS : Hid (cs ++ bitsL (wg ws j) j = lst (hasB ws) ((j + 1) * 64)) := by show _ = _; rw [lst_word, hcs.out]
      obtain ⟨u0, hu0⟩ : ∃ u, wg ws j = u := ⟨_, rfl⟩
      rw [hu0] at hcell hlt2 HS
      clear e hu0 hc0
      obtain ⟨wo, rfl⟩ : ∃ wo : World, wo = wr := ⟨_, rfl⟩
      go_wp2_with fail
      go_loopw [3, 5] (fun v x wr => ∃ (u n : Nat) (B : Option Addr) (d : Nat) (cs : List Int), u < 18446744073709551616 ∧ n ≤ 4096 ∧ x = .int .u64 u ∧ v = .slice B n d ∧ Hid (cs ++ bitsL u j = lst (hasB ws) ((j + 1) * 64)) ∧ Hid (wr.ownsRow w.heap.size 3 1 (.slice B n d) n (cs.map (.int .i64))) ∧ Hid (Below w.heap.size w wr)) (fun _ x _ => (intOf x).toNat)
      case atStart => exact ⟨u0, n, B, d, cs, hlt2, hn, rfl, rfl, HS, hown, hb⟩
      case round =>
        clear hcell hlt2 HS hown hb hcs hn
        obtain ⟨u, n, B, d, cs, hu, hn, rfl, rfl, hS, hown, hb⟩ := hrel
        by_cases h0 : u = 0
        · subst h0
          have HC : Hid (cs = lst (hasB ws) ((j + 1) * 64)) := by have := hS.out; rw [bits_zero, List.append_nil] at this; exact this
          go_wp2_with fail
          go_roundw
          case rel => exact ⟨j + 1, n, B, d, cs, by omega, hn, by go_num, rfl, HC, hown, hb⟩
          case measure => simp [intOf]; omega
        · have t0 : ((u : Int) != 0) = true := by simp; omega
          have htz := bits_tz u hu h0 wr (HT.out.below hb.out)
          obtain ⟨kk, hkk, hk2, _, _, _, hdec⟩ := low_spec u h0 hu
          have hst := bits_step u j h0 hu
          have hlen : cs.length + (bitsL u j).length ≤ 4096 := by
            have h1 := congrArg List.length hS.out
            rw [List.length_append] at h1
            have h2 := lst_len (hasB ws) ((j + 1) * 64)
            omega
          have hcl : cs.length = n := by have := hown.out.1; simp at this; exact this
          have hap := and_pred u h0 hu
          rw [hkk] at htz hst
          have hn1 : n + 1 ≤ 4096 := by rw [hst] at hlen; simp at hlen; omega
          have HS2 : Hid ((cs ++ [(j : Int) * 64 + (kk : Int)]) ++ bitsL (u &&& (u - 1)) j = lst (hasB ws) ((j + 1) * 64)) := by
            show _ = _
            rw [← hS.out, hst, List.append_assoc]
            simp
          have HZ := Lib.hid htz
          have HA := Lib.hid hap
          have hsz := hb.out.size
          have u1 : 1 ≤ u := by omega
          have hand : u &&& (u - 1) < 18446744073709551616 := by omega
          have HD := Lib.hid hdec
          have hown' := hown.out
          clear h0 htz hst hap hlen hcl hkk hdec
          go_wp2_with (first
            | (go_at_call 38; refine HZ.out.mono ?_; rintro e w' ⟨rfl, rfl⟩)
            | (at_builtin; refine wpList_push rfl (.tmp 20) (.tmp 26) _ rfl w.heap.size 3 .i64 8 (by decide) Tryd.underlying36 info_int wr B n d cs _ rfl hown' rfl (by omega) hsz ?_; intro g' c' w' hown2 hb2))
          rw [HA.out]
          have HB2 := Lib.hid (hb.out.trans hb2)
          have HO2 := Lib.hid hown2
          go_roundw
          case rel => exact ⟨u &&& (u - 1), n + 1, _, c', _, hand, hn1, rfl, rfl, HS2, HO2, HB2⟩
          case measure => have := HD.out; simp [intOf]; omega
    · obtain rfl : j = k := by omega
      have hl : cs = listE ws := by rw [hcs.out, HE.out]
      have hcl : cs.length = n := by have := hown.out.1; simp at this; exact this
      have hrd := Rd.of_own hown.out
      have hcap : n ≤ d := by
        rcases hown.out.2 with ⟨h1, h2⟩ | ⟨g, cap, cur, h1, _, _, h2, _⟩
        · omega
        · injection h1 with _ _ h3; omega
      rw [hl] at hcl hrd
      go_wp2
      go_ret
      rw [← hcl] at hrd hcap ⊢
      exact ⟨⟨B, d, rfl, hcap, hrd⟩, hb.out⟩
end Go.Proofs.YtokgcjhlmohjgaaDoor
