/- What is freed: the first of those in limbo; in the end all. -/
import Derived.Test.YtgcoecibhonfnaaSafP
namespace Go.Proofs.Ytgcoecibhonfnaa
theorem ripe_split {fl : List Int} {e : Int} : ∀ m, (∀ q q', q ≤ q' → q' < m → ig fl (q * 2 + 1) ≤ ig fl (q' * 2 + 1)) → ∃ f, f ≤ m ∧ ∀ q, q < m → ripe fl e q = decide (q < f)
  | 0, _ => ⟨0, Nat.le_refl _, fun q hq => by omega⟩
  | m + 1, h => by
    obtain ⟨f, hf, hr⟩ := ripe_split m fun q q' h1 h2 => h q q' h1 (by omega)
    cases hm : ripe fl e m with
    | true =>
      refine ⟨m + 1, Nat.le_refl _, fun q hq => ?_⟩
      rw [decide_eq_true hq]
      unfold ripe at hm ⊢
      have := h q m (by omega) (by omega)
      simp at hm ⊢
      omega
    | false =>
      refine ⟨f, by omega, fun q hq => ?_⟩
      by_cases hqm : q < m
      · exact hr q hqm
      · obtain rfl : q = m := by omega
        rw [hm, decide_eq_false (by omega)]
theorem out_take {fl sl : List Int} {e : Int} {f : Nat} : ∀ m, m ≤ sl.length → (∀ q, q < m → ig sl q = ig fl (q * 2)) → (∀ q, q < m → ripe fl e q = decide (q < f)) → outN fl e m = sl.take (min f m)
  | 0, _, _, _ => by simp [outN]
  | m + 1, hl, hs, hr => by
    rw [outN_succ, out_take m (by omega) (fun q hq => hs q (by omega)) (fun q hq => hr q (by omega)), hr m (by omega)]
    by_cases h : m < f
    · rw [decide_eq_true h, if_pos rfl, Nat.min_eq_right (by omega), Nat.min_eq_right (by omega), take_step (by omega), hs m (by omega)]
    · rw [decide_eq_false h, Nat.min_eq_left (by omega), Nat.min_eq_left (by omega)]; simp
theorem kept_drop {fl : List Int} {e : Int} {f : Nat} : ∀ m, m * 2 ≤ fl.length → (∀ q, q < m → ripe fl e q = decide (q < f)) → keptN fl e m = (fl.take (m * 2)).drop (min f m * 2)
  | 0, _, _ => by simp [keptN]
  | m + 1, hl, hr => by
    rw [keptN_succ, kept_drop m (by omega) (fun q hq => hr q (by omega)), hr m (by omega)]
    by_cases h : m < f
    · rw [decide_eq_true h, if_pos rfl, Nat.min_eq_right (by omega), Nat.min_eq_right (by omega), List.append_nil, List.drop_eq_nil_of_le (by simp; omega), List.drop_eq_nil_of_le (by simp; omega)]
    · rw [decide_eq_false h, Nat.min_eq_left (by omega), Nat.min_eq_left (by omega), take2 (by omega), List.drop_append_of_le_length (by simp; omega)]
      simp
section
variable {s : EpS} {t : Nat} {pin sl tm : List Int}
theorem Inv2.free (h : Inv2 s t pin sl tm) : ∃ f, f ≤ s.k ∧ outN s.fl s.ep s.k = sl.take f ∧ Inv2 s.freeS t pin (sl.drop f) (tm.drop f) ∧ ∀ i q, i < s.n → q < f → ¬ (0 < ig pin i ∧ ig pin i < ig tm q) := by
  obtain ⟨f, hf, hr⟩ := ripe_split (fl := s.fl) (e := s.ep) s.k h.so
  have hfl := h.inv.fl
  have ho : outN s.fl s.ep s.k = sl.take f := by
    rw [out_take s.k (by rw [h.sl_]; exact Nat.le_refl _) h.se hr, Nat.min_eq_left hf]
  have hk : keptN s.fl s.ep s.k = s.fl.drop (f * 2) := by
    rw [kept_drop s.k (by omega) hr, Nat.min_eq_left hf, List.take_of_length_le (by omega)]
  have e1 : s.freeS = { s with fl := s.fl.drop (f * 2) } := by unfold EpS.freeS; rw [hk]
  have e2 : ({ s with fl := s.fl.drop (f * 2) } : EpS).k = s.k - f := by simp only [EpS.k] at hfl ⊢; simp; omega
  have hi := inv_free h.inv
  have hg : ∀ q, ({ s with fl := s.fl.drop (f * 2) } : EpS).gen_ q = s.gen_ (f + q) := fun q => by
    show ig (s.fl.drop (f * 2)) (q * 2 + 1) = ig s.fl ((f + q) * 2 + 1)
    rw [ig_drop]; congr 1; omega
  rw [e1] at hi ⊢
  refine ⟨f, hf, ho, ⟨hi, h.pl, by rw [e2]; simp [h.sl_], by rw [e2]; simp [h.tl], fun q hq => ?_, h.pr, h.le, fun q hq => ?_, fun q hq => ?_, fun q q' h1 h2 => ?_, fun i q h1 h2 h3 h4 => ?_⟩, fun i q hi' hq ⟨h3, h4⟩ => ?_⟩
  · rw [e2] at hq
    show ig (sl.drop f) q = ig (s.fl.drop (f * 2)) (q * 2)
    rw [ig_drop, ig_drop, h.se (f + q) (by omega)]; congr 1; omega
  · rw [e2] at hq; rw [ig_drop]; exact h.tt (f + q) (by omega)
  · rw [e2] at hq; rw [hg]; exact h.ge (f + q) (by omega)
  · rw [e2] at h2; rw [hg, hg]; exact h.so _ _ (by omega) (by omega)
  · rw [e2] at h2
    rw [ig_drop] at h4
    rw [hg]
    exact h.key i (f + q) h1 (by omega) h3 h4
  · obtain ⟨_, b⟩ := h.key i q hi' (by omega) h3 h4
    have hrq := hr q (by omega)
    rw [decide_eq_true hq] at hrq
    unfold ripe at hrq
    simp only [decide_eq_true_eq] at hrq
    have hgq : s.gen_ q = ig s.fl (q * 2 + 1) := rfl
    omega
/-- The end: what is in limbo was retired in the epoch E at the latest. -/
structure Fin3 (s : EpS) (t E : Nat) (sl : List Int) : Prop where
  inv : s.Inv t
  sl_ : sl.length = s.k
  se : ∀ q, q < s.k → ig sl q = ig s.fl (q * 2)
  ge : ∀ q, q < s.k → s.gen_ q ≤ E
theorem Inv2.fin (h : Inv2 s t pin sl tm) : Fin3 s t s.ep sl := ⟨h.inv, h.sl_, h.se, h.ge⟩
theorem unp_rec {i : Nat} (hi : i < s.n) (j : Nat) : (s.unpS i).rec_ j = (if i = j then 0 else s.rec_ j) ∧ (s.unpS i).n = s.n ∧ (s.unpS i).ep = s.ep ∧ (s.unpS i).at_ = s.at_ := by
  have hh : s.has i = true := by simp [EpS.has]; exact hi
  unfold EpS.unpS EpS.unpB
  rw [hh, Int.toNat_natCast]
  cases hr : (s.rec_ i != 0) with
  | true =>
    simp only [Bool.true_and, if_true]
    exact ⟨(ld_set1 hi 0 j).2, n_set _ _ _, by trivial, by trivial⟩
  | false =>
    simp only [Bool.and_false, Bool.false_eq_true, if_false]
    refine ⟨?_, by trivial, by trivial, by trivial⟩
    split
    · rename_i e; rw [← e]; simpa using hr
    · rfl
theorem Fin3.unp {E : Nat} (h : Fin3 s t E sl) (i : Int) : Fin3 (s.unpS i) t E sl := by
  have hi := inv_unp h.inv i
  unfold EpS.unpS at hi ⊢
  split
  · rename_i hb
    rw [if_pos hb] at hi
    exact ⟨hi, h.sl_, h.se, h.ge⟩
  · exact h
theorem Fin3.look {E : Nat} (h : Fin3 s t E sl) : Fin3 s.look (t + 1) E sl := by
  have hi := inv_look h.inv
  unfold EpS.look at hi ⊢
  split
  · rename_i hb; rw [if_pos hb] at hi; exact ⟨hi, h.sl_, h.se, h.ge⟩
  · rename_i hb
    rw [if_neg hb] at hi
    split
    · rename_i hc; rw [if_pos hc] at hi; exact ⟨hi, h.sl_, h.se, h.ge⟩
    · rename_i hc; rw [if_neg hc] at hi; exact ⟨hi, h.sl_, h.se, h.ge⟩
theorem look_zero (hat : s.at_ < s.n) (hz : ∀ i, i < s.n → s.rec_ i = 0) : s.look.n = s.n ∧ (∀ i, i < s.n → s.look.rec_ i = 0) ∧ s.look.ep * s.n + s.look.at_ = s.ep * s.n + s.at_ + 1 := by
  have hh : s.held = false := by unfold EpS.held; rw [hz _ hat]; rfl
  unfold EpS.look
  rw [hh]
  simp only [Bool.false_eq_true, if_false]
  split
  · exact ⟨rfl, hz, by show s.ep * s.n + (s.at_ + 1) = _; omega⟩
  · refine ⟨rfl, hz, ?_⟩
    show (s.ep + 1) * s.n + 0 = _
    have : (s.ep + 1) * s.n = s.ep * s.n + s.n := by rw [Nat.add_mul, Nat.one_mul]
    omega
theorem Fin3.all {E : Nat} (h : Fin3 s t E sl) (he : E + 2 ≤ s.ep) : outN s.fl s.ep s.k = sl ∧ keptN s.fl s.ep s.k = [] := by
  have hr : ∀ q, q < s.k → ripe s.fl s.ep q = decide (q < s.k) := fun q hq => by
    rw [decide_eq_true hq]
    have := h.ge q hq
    have hgq : s.gen_ q = ig s.fl (q * 2 + 1) := rfl
    unfold ripe
    simp
    omega
  have hfl := h.inv.fl
  constructor
  · rw [out_take s.k (by rw [h.sl_]; exact Nat.le_refl _) h.se hr, Nat.min_self, List.take_of_length_le (by rw [h.sl_]; exact Nat.le_refl _)]
  · rw [kept_drop s.k (by omega) hr, Nat.min_self, List.drop_eq_nil_of_le (by simp; omega)]
/-- Behind 4 n looks the epoch is 3 more at least. -/
theorem looks_end {n e0 a0 e1 a1 : Nat} (h0 : a0 < n) (h1 : a1 < n) (h : e1 * n + a1 = e0 * n + a0 + 4 * n) : e0 + 2 ≤ e1 := by
  rcases Nat.lt_or_ge e1 (e0 + 2) with hlt | hge
  · have : e1 * n ≤ (e0 + 1) * n := Nat.mul_le_mul_right _ (by omega)
    rw [Nat.add_mul, Nat.one_mul] at this
    omega
  · exact hge
end
end Go.Proofs.Ytgcoecibhonfnaa
