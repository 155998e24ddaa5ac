/- The walk of the law RngBack: another order has each number once. -/
import Derived.Test.YtknnalaemndnaaaLaw03
namespace Go.Proofs.Ytknnalaemndnaaa
open Go.RowKit
/-- Each of the numbers below n is there once. -/
def PermOK (n : Nat) (l : List Int) : Prop := l.length = n ∧ (∀ j, j < n → 0 ≤ ig l j ∧ ig l j < n) ∧ ∀ j j', j < n → j' < n → ig l j = ig l j' → j = j'
theorem permOK_upto (n : Nat) : PermOK n (upto n) := by
  have e : ∀ j, j < n → ig (upto n) j = j := fun j hj => by simp [ig, upto, List.getD_eq_getElem?_getD, hj]
  exact ⟨len_upto n, fun j hj => by rw [e j hj]; omega, fun j j' hj hj' h => by rw [e j hj, e j' hj'] at h; omega⟩
theorem ig_swap {l : List Int} {i k j : Nat} (hi : i < l.length) (hk : k < l.length) : ig (swapI l i k) j = if k = j then ig l i else if i = j then ig l k else ig l j := by
  rw [swapI, ig_set (by rw [List.length_set]; exact hk), ig_set hi]
theorem permOK_swap {n : Nat} {l : List Int} {i k : Nat} (h : PermOK n l) (hi : i < n) (hk : k < n) : PermOK n (swapI l i k) := by
  obtain ⟨hl, hr, hu⟩ := h
  refine ⟨by rw [len_swap, hl], fun j hj => ?_, fun j j' hj hj' => ?_⟩
  · rw [ig_swap (by omega) (by omega)]
    split
    · exact hr i hi
    · split
      · exact hr k hk
      · exact hr j hj
  · rw [ig_swap (by omega) (by omega), ig_swap (by omega) (by omega)]
    intro h
    split at h <;> split at h <;> (try split at h) <;> (try split at h) <;> first
      | omega
      | (have := hu _ _ (by assumption) (by assumption) h; omega)
theorem permOK_from (n : Nat) (seed : Int) : ∀ (i : Nat) (l : List Int), i < n → PermOK n l → PermOK n (permFrom seed i l) := by
  intro i
  induction i with
  | zero => intro l _ h; exact h
  | succ i ih => intro l hi h; exact ih _ (by omega) (permOK_swap h hi (by have := permK_le seed (i + 1); omega))
theorem permOK_perm (seed : Int) (n : Nat) : PermOK n (permI seed n) := by
  rcases Nat.eq_zero_or_pos n with h | h
  · subst h; exact ⟨rfl, fun j hj => by omega, fun j j' hj => by omega⟩
  · exact permOK_from n seed (n - 1) _ (by omega) (permOK_upto n)
def PermRet (n : Nat) (w : World) (e : Ending) (w' : World) : Prop :=
  ∃ L A c, e = .returned (.slice A n c) ∧ Rd w' w'.heap.size A n (L.map (.int .i64)) ∧ PermOK n L ∧ Below w.heap.size w w'
theorem rng_perm_ok (seed n : Int) (w : World) : Calls Try.prog 24 #[.int .u64 seed, .int .i64 n] w (PermRet (permLen n) w) :=
  (rng_perm seed n w).mono fun e w' ⟨⟨A, c, he, _, hr⟩, hb⟩ => ⟨_, A, c, by rw [len_perm] at he; exact he, by rw [len_perm] at hr; exact hr, permOK_perm _ _, hb⟩
theorem mix_eq_iff {x y : Int} (hx : Word x) (hy : Word y) : (mixI x == mixI y) = (x == y) := by
  by_cases h : x = y
  · subst h; simp
  · have : mixI x ≠ mixI y := fun e => h (by rw [← unmixI_mixI hx, ← unmixI_mixI hy, e])
    rw [beq_eq_false_iff_ne.2 this, beq_eq_false_iff_ne.2 h]
set_option maxHeartbeats 2000000 in
theorem rngBack_walk (x y many : Int) (hx : Word x) (hy : Word y) (w : World) :
    Calls Try.prog 4 #[.int .u64 x, .int .u64 y, .int .i64 many] w fun e w' => e = .returned (.bool true) ∧ Below w.heap.size w w' := by
  have f1 : (unmixI (mixI x) != x) = false := by rw [unmixI_mixI hx]; simp
  have f2 : (mixI (unmixI x) != x) = false := by rw [mixI_unmixI hx]; simp
  have f3 := mix_eq_iff hx hy
  have f4 : decide (0 < y) = true → decide (y ≤ belowI x y) = false := fun h => by
    have := (belowI_bd hx hy.1).2.1 (by simpa using h)
    simp; omega
  have X := Lib.hid hx
  have Y := Lib.hid hy
  clear hx hy
  obtain ⟨q, hq⟩ : ∃ q : Nat, permLen many = q := ⟨_, rfl⟩
  have hq2 : min (max many 0) 4096 = (q : Int) := by unfold permLen at hq; omega
  have hq4 : q ≤ 4096 := by omega
  have HQ := Lib.hid hq
  clear hq
  have hmk := fun (kl kc : IntKind) => run_make_row' (P := Try.prog) 31 4 (.bool false) 1 Try.underlying31 info_bool rfl kl kc q (by omega) (by omega)
  by_cases hy0 : 0 < y
  all_goals
    first
      | (have g1 : decide (0 < y) = true := by simpa using hy0
         have g2 := f4 g1)
      | have g1 : decide (0 < y) = false := by simpa using hy0
    clear f4 hy0
    go_enter Try.func4, Try.ntmps4
    go_wp2_with (first
      | (go_at_call 12; refine (lives03 _).mono ?_; rintro e w1 ⟨rfl, hb1⟩)
      | (go_at_call 13; refine (rng_mix _ _).mono ?_; rintro e w' ⟨rfl, rfl⟩)
      | (go_at_call 15; refine (rng_unmix _ _).mono ?_; rintro e w' ⟨rfl, rfl⟩)
      | (go_at_call 19; refine (rng_below _ _ X.out Y.out _).mono ?_; rintro e w' ⟨rfl, rfl⟩)
      | (go_at_call 24; refine (rng_perm_ok _ _ _).mono ?_; rw [HQ.out]; rintro e w2 ⟨L, A, c, rfl, hr, hok, hb2⟩))
    have h0 := BB.made w2 4 q
    have hb0 : Below w2.heap.size w2 (w2.alloc (.cells (madeCells #[.bool false] q) 4)) := (Below.refl _ _).alloc (Nat.le_refl _) _
    clear hmk f1 f2 f3 X Y g1
    obtain ⟨W, hW⟩ : ∃ W, W = w2.alloc (.cells (madeCells #[.bool false] q) 4) := ⟨_, rfl⟩
    rw [← hW] at h0 hb0 ⊢
    clear hW
    have OK := Lib.hid hok
    clear hok
    go_loopw [61] (fun i wr => ∃ (k : Nat) (bs : List Bool), k ≤ q ∧ i = .int .i64 k ∧ Hid (bs.length = q) ∧ BB wr w2.heap.size 4 bs ∧ Below w2.heap.size w2 wr ∧ Hid (∀ m : Nat, bg bs m = true → ∃ j, j < k ∧ ig L j = m)) (fun i _ => q - (intOf i).toNat)
    case atStart => exact ⟨0, _, Nat.zero_le _, rfl, List.length_replicate, h0, hb0, fun m hm => by simp [bg, List.getD_eq_getElem?_getD, List.getElem?_replicate] at hm; split at hm <;> simp at hm⟩
    case round =>
      clear h0 hb0 W
      obtain ⟨k, bs, hk, rfl, hl, hbb, hb, hv⟩ := hrel
      by_cases hlt : k < q
      · obtain ⟨b, o, rfl, hblt, hc⟩ := hr.atI hlt
        have hc' := (hb.cell (p := ⟨b, o + k, none⟩) hblt).trans hc
        obtain ⟨v1, v2⟩ := OK.out.2.1 k hlt
        obtain ⟨v, hvv⟩ := Int.eq_ofNat_of_zero_le v1
        have hvq : v < q := by omega
        have hseen : bg bs v = false := by
          cases hcase : bg bs v with
          | false => rfl
          | true =>
            obtain ⟨j, hj, hje⟩ := hv.out v hcase
            have := OK.out.2.2 j k (by omega) hlt (by rw [hje, hvv])
            omega
        rw [hvv] at hc'
        have hs := hbb.cell (k := v) (by rw [hl.out]; exact hvq)
        rw [hseen] at hs
        have hf := hbb.frozen v
        have hn0 : decide ((v : Int) < 0) = false := by simp
        clear hc v1 v2
        have HV := Lib.hid hvv
        have HS := Lib.hid hseen
        clear hvv hseen
        go_wp2
        go_roundw
        case rel => exact ⟨k + 1, _, by omega, by go_num, by show _ = _; rw [List.length_set]; exact hl.out, hbb.set_ (by rw [hl.out]; exact hvq) true, hb.setCell (Nat.le_refl _) _, fun m hm => by
          rw [bg_set (by rw [hl.out]; exact hvq)] at hm
          split at hm
          · rename_i h; subst h; exact ⟨k, by omega, HV.out⟩
          · obtain ⟨j, hj, hje⟩ := hv.out m hm
            exact ⟨j, by omega, hje⟩⟩
        case measure => simp [intOf]; omega
      · go_wp2
        go_ret
        exact ⟨rfl, hb1.trans ((hb2.mono hb1.size).trans (hb.mono (Nat.le_trans hb1.size hb2.size)))⟩
end Go.Proofs.Ytknnalaemndnaaa
