/- Walk of the reference of bitset.Of. -/
import Derived.Test.YtknnalaemndnaaaDoorBitR
namespace Go.Proofs.YtknnalaemndnaaaDoor
open Go.RowKit
theorem ig_app_zero (cs : List Int) (z i : Nat) : ig (cs ++ List.replicate z 0) i = ig cs i := by
  rw [ig, ig, List.getD_eq_getElem?_getD, List.getD_eq_getElem?_getD]
  rcases Nat.lt_or_ge i cs.length with q | q
  · rw [List.getElem?_append_left q]
  · rw [List.getElem?_append_right q, List.getElem?_replicate, List.getElem?_eq_none q]
    split <;> rfl
theorem hasB_app (cs : List Int) (z n : Nat) : hasB (cs ++ List.replicate z 0) n = hasB cs n := by unfold hasB wg; rw [ig_app_zero]
theorem or_add (x r : Nat) (h : x.testBit r = false) : x + 2 ^ r = x ||| 2 ^ r := by
  have hp : 0 < 2 ^ r := Nat.two_pow_pos r
  have h2 : x / 2 ^ r % 2 = 0 := by
    rw [Nat.testBit_eq_decide_div_mod_eq] at h
    have := of_decide_eq_false h
    omega
  obtain ⟨a, ha⟩ : ∃ a, x / 2 ^ r = 2 * a := ⟨x / 2 ^ r / 2, by omega⟩
  have hx : x = 2 ^ r * (2 * a) + x % 2 ^ r := by rw [← ha]; exact (Nat.div_add_mod x (2 ^ r)).symm
  have hx' : x + 2 ^ r = 2 ^ r * (2 * a + 1) + x % 2 ^ r := by rw [Nat.mul_add, Nat.mul_one]; omega
  have hlt : x % 2 ^ r < 2 ^ r := Nat.mod_lt _ hp
  apply Nat.eq_of_testBit_eq
  intro i
  rw [Nat.testBit_or, Nat.testBit_two_pow, hx', Nat.testBit_two_pow_mul_add _ hlt]
  conv => rhs; rw [hx]
  rw [Nat.testBit_two_pow_mul_add _ hlt]
  split
  · rename_i hi; simp; omega
  · rename_i hi
    rcases Nat.eq_or_lt_of_le (Nat.le_of_not_lt hi) with e | e
    · subst e; simp [Nat.testBit_zero]
    · obtain ⟨d, rfl⟩ : ∃ d, i = r + (d + 1) := ⟨i - r - 1, by omega⟩
      rw [show r + (d + 1) - r = d + 1 by omega, Nat.testBit_succ, Nat.testBit_succ, show (2 * a + 1) / 2 = a by omega, show 2 * a / 2 = a by omega]
      have : decide (r = r + (d + 1)) = false := by simp
      rw [this, Bool.or_false]
/-- One number more. -/
theorem canon_add {l : List Int} {k x z : Nat} {cs : List Int} (h : Canon (inL (l.take k)) cs) (hk : k < l.length) (hx : ig l k = x) (hx4 : x < 4096) (hn : hasB cs x = false) (hz : cs.length + z = max cs.length (x / 64 + 1)) :
    Canon (inL (l.take (k + 1))) ((cs ++ List.replicate z 0).set (x / 64) ((wg cs (x / 64) + 2 ^ (x % 64) : Nat) : Int)) := by
  obtain ⟨h1, h2, h3, h4⟩ := h
  have hlen : (cs ++ List.replicate z 0).length = max cs.length (x / 64 + 1) := by rw [List.length_append, List.length_replicate]; exact hz
  have hw := wg_nat h1 (x / 64)
  have ho : wg cs (x / 64) + 2 ^ (x % 64) = wg cs (x / 64) ||| 2 ^ (x % 64) := or_add _ _ hn
  refine ⟨fun y hy => ?_, ?_, fun n hn4 => ?_, ?_⟩
  · rcases List.mem_or_eq_of_mem_set hy with q | rfl
    · rcases List.mem_append.1 q with q | q
      · exact h1 y q
      · obtain ⟨_, rfl⟩ := List.mem_replicate.1 q; exact ⟨by decide, by decide⟩
    · rw [ho]; exact word_of_nat (or_bit _ _ hw.2 (Nat.mod_lt _ (by decide)))
  · rw [List.length_set, hlen]; omega
  · rw [hasB_set (by rw [hlen]; omega), take_step hk, hx]
    have e : inL (l.take k ++ [(x : Int)]) n = (inL (l.take k) n || decide (n = x)) := by
      unfold inL
      rw [← Bool.decide_or, decide_eq_decide, List.mem_append, List.mem_singleton]
      constructor
      · rintro (h | h)
        · exact Or.inl h
        · exact Or.inr (by omega)
      · rintro (h | h)
        · exact Or.inl h
        · exact Or.inr (by omega)
    rw [e, ← h3 n hn4]
    split
    · rename_i hd
      rw [Int.toNat_natCast, ho, Nat.testBit_or, Nat.testBit_two_pow, hasB, hd]
      congr 1
      rw [decide_eq_decide]
      omega
    · rename_i hd
      rw [hasB_app, show decide (n = x) = false from decide_eq_false (fun e => hd (by rw [e])), Bool.or_false]
  · right
    rw [List.length_set, hlen, ig_set (by rw [hlen]; omega)]
    split
    · have := Nat.two_pow_pos (x % 64); omega
    · rename_i hne
      rw [ig_app_zero]
      have hgt : x / 64 + 1 ≤ cs.length := by omega
      rw [Nat.max_eq_left hgt]
      rcases h4 with rfl | h4
      · simp at hgt
      · exact h4
theorem canon_skip {l : List Int} {k : Nat} {cs : List Int} (h : Canon (inL (l.take k)) cs) (hk : k < l.length) (hx : (ig l k < 0 ∨ 4096 ≤ ig l k) ∨ ∃ x : Nat, ig l k = x ∧ hasB cs x = true ∧ x < 4096) : Canon (inL (l.take (k + 1))) cs := by
  refine canon_congr h fun n hn => ?_
  rw [take_step hk]
  unfold inL
  rw [decide_eq_decide, List.mem_append, List.mem_singleton]
  constructor
  · exact Or.inl
  · rintro (h' | h')
    · exact h'
    · rcases hx with hx | ⟨x, hx, hh, hx4⟩
      · omega
      · have : n = x := by omega
        subst this
        rw [h.2.2.1 n hx4] at hh
        exact of_decide_eq_true hh
theorem own_none {w : World} {base t n d : Nat} {xs : List Value} {B : Option Addr} (h : w.ownsRow base t 1 (.slice B n d) n xs) : B = none → d = 0 := by
  rintro rfl
  rcases h.2 with ⟨h1, _⟩ | ⟨g, cap, cur, h1, _⟩
  · injection h1
  · injection h1 with h1; cases h1
/-- How long a slice is. -/
def lenOf : Value → Nat
  | .slice _ n _ => n
  | _ => 0
theorem lenOf_slice (A : Option Addr) (n c : Nat) : lenOf (.slice A n c) = n := rfl
set_option maxRecDepth 100000 in
set_option maxHeartbeats 4000000 in
theorem ref_of (A : Option Addr) (m c : Nat) (l : List Int) (w : World) (hr : Rd w w.heap.size A m (l.map (.int .i64))) (hm : m ≤ 9223372036854775807) :
    Calls Tryd.prog 13 #[.slice A m c] w (RetC (inL l) w) := by
  have HR := Lib.hid hr
  have HL : Hid (l.length = m) := hr.lenI
  clear hr
  go_enter Tryd.func13, Tryd.ntmps13
  go_wp2
  go_loopw [3, 5, 8] (fun v _ i wr => ∃ (k n : Nat) (B : Option Addr) (d : Nat) (cs : List Int), k ≤ m ∧ n ≤ 64 ∧ i = .int .i64 k ∧ v = .slice B n d ∧ Hid (Canon (inL (l.take k)) cs) ∧ Hid (wr.ownsRow w.heap.size 38 1 (.slice B n d) n (cs.map (.int .u64))) ∧ Hid (Below w.heap.size w wr)) (fun _ _ i _ => m - (intOf i).toNat)
  case atStart => exact ⟨0, 0, none, 0, [], Nat.zero_le _, by decide, rfl, rfl, ⟨by simp, by simp, fun n _ => by rw [hasB_out (by simp)]; simp [inL], Or.inl rfl⟩, World.ownsRow_nil _ _ _ _, Below.refl _ _⟩
  case round =>
    obtain ⟨k, n, B, d, cs, hk, hn, rfl, rfl, hcan, hown, hB⟩ := hrel
    by_cases hlt : k < m
    · obtain ⟨b, o, rfl, hb0, hc0⟩ := HR.out.atI hlt
      have hc := (hB.out.cell (p := ⟨b, o + k, none⟩) hb0).trans hc0
      have hkl : k < l.length := by rw [HL.out]; exact hlt
      by_cases hx : 0 ≤ ig l k ∧ ig l k < 4096
      · obtain ⟨x, hxe⟩ := Int.eq_ofNat_of_zero_le hx.1
        have hx4 : x < 4096 := by omega
        have HXE := Lib.hid hxe
        have hcl := own_len hown.out
        rw [hxe] at hc
        obtain ⟨q, hq⟩ : ∃ q, x / 64 = q := ⟨_, rfl⟩
        obtain ⟨r, hr'⟩ : ∃ r, x % 64 = r := ⟨_, rfl⟩
        have hq' : (x : Int) / 64 = (q : Int) := by omega
        have hr'' : (x : Int) % 64 = (r : Int) := by omega
        have hr64 : r < 64 := by omega
        have hq64 : q < 64 := by omega
        have HCL := Lib.hid hcl
        clear hc0 hx hxe hcl
        obtain ⟨wo, rfl⟩ : ∃ wo : World, wo = wr := ⟨_, rfl⟩
        go_wp2_with fail
        go_loopw [3] (fun v wr => ∃ (z n' : Nat) (B : Option Addr) (d : Nat), n' = n + z ∧ n + z ≤ max n (q + 1) ∧ v = .slice B n' d ∧ Hid (wr.ownsRow w.heap.size 38 1 (.slice B n' d) n' ((cs ++ List.replicate z 0).map (.int .u64))) ∧ Hid (Below w.heap.size w wr)) (fun v _ => 64 - lenOf v)
        case atStart => exact ⟨0, n, B, d, rfl, by omega, rfl, by simpa using hown, hB⟩
        case round =>
          clear hown hB
          obtain ⟨z, n', B, d, hnz, hzm, rfl, hown, hB⟩ := hrel
          have hown' := hown.out
          have hsz := hB.out.size
          by_cases h1 : n' ≤ q
          · have t1 : decide ((n' : Int) ≤ (q : Int)) = true := by simp; omega
            have HNZ := Lib.hid hnz
            have hn2 : n' ≤ 64 := by omega
            have hzm2 : n + (z + 1) ≤ max n (q + 1) := by omega
            have hlt64 : n' < 64 := by omega
            clear hnz
            go_wp2_with (at_builtin; refine wpList_push rfl (.tmp 23) (.tmp 24) _ rfl w.heap.size 38 .u64 8 (by decide) Tryd.underlying22 info_u64 wr B n' d _ _ rfl hown' rfl (by omega) hsz ?_; intro g' c' w' hown2 hb2)
            have HB2 := Lib.hid (hB.out.trans hb2)
            have HO2 : Hid (w'.ownsRow w.heap.size 38 1 (.slice (some ⟨g', 0, none⟩) (n' + 1) c') (n' + 1) ((cs ++ List.replicate (z + 1) 0).map (.int .u64))) := by
              show World.ownsRow _ _ _ _ _ _ _
              rw [List.replicate_succ', ← List.append_assoc]; exact hown2
            have hnz2 : n' + 1 = n + (z + 1) := by rw [HNZ.out]; omega
            have HN2 := Lib.hid hnz2
            clear hnz2 hown2
            go_roundw
            case rel => exact ⟨z + 1, n' + 1, some ⟨g', 0, none⟩, c', HN2.out, hzm2, rfl, HO2, HB2⟩
            case measure => simp only [lenOf_slice]; omega
          · have t1 : decide ((n' : Int) ≤ (q : Int)) = false := by simp; omega
            have hcw : ∀ y ∈ cs ++ List.replicate z 0, Word y := fun y hy => by
              rcases List.mem_append.1 hy with g | g
              · exact hcan.out.1 y g
              · obtain ⟨_, rfl⟩ := List.mem_replicate.1 g; exact ⟨by decide, by decide⟩
            have hn' : n' ≤ 64 := by omega
            have hrd := Rd.of_own hown'
            have hhas := ref_has B n' d _ _ x (by omega) (by omega) wr hrd hcw
            have he : hasE (cs ++ List.replicate z 0) x = hasB cs x := by unfold hasE; rw [Int.toNat_natCast, hasB_app]; simp; omega
            rw [he] at hhas
            have hzz : cs.length + z = max cs.length (x / 64 + 1) := by rw [HCL.out, hq]; omega
            have hqn : q < n' := by omega
            cases hh : hasB cs x with
            | true =>
              rw [hh] at hhas
              have hz0 : z = 0 := by
                rcases Nat.lt_or_ge q cs.length with g | g
                · rw [hq] at hzz; omega
                · rw [hasB_out (by rw [hq]; exact g)] at hh; cases hh
              have HC := Lib.hid (canon_skip hcan.out hkl (Or.inr ⟨x, HXE.out, hh, hx4⟩))
              have HH := Lib.hid hhas
              have HO : Hid (wr.ownsRow w.heap.size 38 1 (.slice B n' d) n' (cs.map (.int .u64))) := by
                show World.ownsRow _ _ _ _ _ _ _
                subst hz0; simpa using hown'
              clear hhas hh he hzz hz0 hnz hq hr' hown' hrd
              go_wp2_with (go_at_call 10; refine HH.out.mono ?_; rintro e w' ⟨rfl, rfl⟩)
              go_roundw
              case rel => exact ⟨k + 1, n', B, d, cs, by omega, hn', by go_num, rfl, HC, HO, hB⟩
              case measure => simp [intOf]; omega
            | false =>
              rw [hh] at hhas
              have HC := Lib.hid (canon_add hcan.out hkl HXE.out hx4 hh hzz)
              have HH := Lib.hid hhas
              obtain ⟨b1, o1, rfl, _, hcell⟩ := hrd.atI hqn
              rw [ig_app_zero, (wg_nat hcan.out.1 q).1] at hcell
              have hlt2 := (wg_nat hcan.out.1 q).2
              obtain ⟨g, cap, hv, hg1, hg2⟩ := hown'.form (by omega)
              have hA : (⟨b1, o1, none⟩ : Addr) = ⟨g, 0, none⟩ := by injection hv with hv; injection hv
              clear hv
              injection hA with hv ho
              subst hv; subst ho
              rw [Nat.zero_add] at hcell
              have hfz := hown'.frozenAt q
              have hst := hown'.stored q (.int .u64 ((wg cs (x / 64) + 2 ^ (x % 64) : Nat) : Int))
              have hbx : hasB cs x = (wg cs q).testBit r := by unfold hasB; rw [hq, hr']
              rw [hbx] at hh
              rw [hq, hr'] at HC hst
              rw [← List.map_set] at hst
              obtain ⟨y, hy⟩ : ∃ y, wg cs q = y := ⟨_, rfl⟩
              rw [hy] at hcell hlt2 HC hst hh
              have hsum : y + 2 ^ r < 18446744073709551616 := by rw [or_add _ _ hh]; exact or_bit _ _ hlt2 hr64
              have hpl : 2 ^ r < 18446744073709551616 := Nat.pow_lt_pow_right (a := 2) (by decide) hr64
              have hwv : IntKind.u64.wrap ((y : Int) + IntKind.u64.wrap (2 ^ r)) = ((y + 2 ^ r : Nat) : Int) := by
                rw [show ((2 : Int) ^ r) = ((2 ^ r : Nat) : Int) by simp, wrap_word (word_of_nat hpl), ← Int.natCast_add, wrap_word (word_of_nat hsum)]
              have HWV := Lib.hid hwv
              have HO := Lib.hid hst.1
              have HB3 := Lib.hid (hB.out.trans (below_of_only hst.2 hsz hg1))
              clear hhas hh he hzz hnz hq hr' hown' hrd hst hwv hsum hpl hy hbx hlt2
              go_wp2_with (go_at_call 10; refine HH.out.mono ?_; rintro e w' ⟨rfl, rfl⟩)
              rw [HWV.out]
              go_roundw
              case rel => exact ⟨k + 1, n', _, _, _, by omega, hn', by go_num, rfl, HC, HO, HB3⟩
              case measure => simp [intOf]; omega
      · have HC := Lib.hid (canon_skip hcan.out hkl (Or.inl (by omega)))
        obtain ⟨z, hz⟩ : ∃ z, ig l k = z := ⟨_, rfl⟩
        rw [hz] at hc hx
        clear hz hc0
        by_cases hz0 : z < 0
        · have t1 : decide (z < 0) = true := by simp; omega
          clear hx
          go_wp2
          go_roundw
          case rel => exact ⟨k + 1, n, B, d, cs, by omega, hn, by go_num, rfl, HC, hown, hB⟩
          case measure => simp [intOf]; omega
        · have t1 : decide (z < 0) = false := by simp; omega
          have t2 : decide (4096 ≤ z) = true := by simp; omega
          clear hx hz0
          go_wp2
          go_roundw
          case rel => exact ⟨k + 1, n, B, d, cs, by omega, hn, by go_num, rfl, HC, hown, hB⟩
          case measure => simp [intOf]; omega
    · obtain rfl : k = m := by omega
      have hall : l.take k = l := by rw [← HL.out, List.take_length]
      have hcn := hcan.out
      rw [hall] at hcn
      have hn2 := own_len hown.out
      have hcap := own_cap hown.out
      have hnn := own_none hown.out
      have hrd := Rd.of_own hown.out
      clear hall
      go_wp2
      go_ret
      rw [← hn2] at hcap hrd ⊢
      exact ⟨cs, B, d, rfl, hcap, hnn, hcn, hrd, hB.out⟩
end Go.Proofs.YtknnalaemndnaaaDoor
