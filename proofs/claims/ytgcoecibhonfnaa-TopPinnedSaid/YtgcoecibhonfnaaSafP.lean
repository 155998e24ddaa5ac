/- Why nobody can see what is freed: the law of the epochs, in plain words. -/
import Derived.Test.YtgcoecibhonfnaaOwnO
namespace Go.Proofs.Ytgcoecibhonfnaa
/-- The epoch in which the q-th of those in limbo was retired. -/
def EpS.gen_ (s : EpS) (q : Nat) : Int := ig s.fl (q * 2 + 1)
structure Inv2 (s : EpS) (t : Nat) (pin sl tm : List Int) : Prop where
  inv : s.Inv t
  pl : pin.length = s.n
  sl_ : sl.length = s.k
  tl : tm.length = s.k
  se : ∀ q, q < s.k → ig sl q = ig s.fl (q * 2)
  pr : ∀ i, i < s.n → 0 ≤ ig pin i ∧ ig pin i ≤ t ∧ (ig pin i = 0 ↔ s.rec_ i = 0)
  le : ∀ i, i < s.n → s.ld i ≤ s.ep ∧ s.rec_ i ≤ s.ep + 1
  tt : ∀ q, q < s.k → ig tm q ≤ t
  ge : ∀ q, q < s.k → s.gen_ q ≤ s.ep
  so : ∀ q q', q ≤ q' → q' < s.k → s.gen_ q ≤ s.gen_ q'
  key : ∀ i q, i < s.n → q < s.k → 0 < ig pin i → ig pin i < ig tm q → s.rec_ i ≤ s.gen_ q + 1 ∧ (s.ep ≤ s.gen_ q ∨ ((s.ep : Int) = s.gen_ q + 1 ∧ s.at_ ≤ i))
theorem ig_set_list {l : List Int} {k j : Nat} {u : Int} (hk : k < l.length) : ig (l.set k u) j = if k = j then u else ig l j := ig_set hk
section
variable {s : EpS} {t : Nat} {pin sl tm : List Int}
theorem Inv2.new (n : Nat) (h1 : 1 ≤ n) (h2 : n ≤ 64) : Inv2 ⟨0, 0, List.replicate (n * 2) 0, []⟩ 0 (List.replicate n 0) [] [] := by
  have hn : (⟨0, 0, List.replicate (n * 2) 0, []⟩ : EpS).n = n := by simp [EpS.n]
  have hk : (⟨0, 0, List.replicate (n * 2) 0, []⟩ : EpS).k = 0 := by simp [EpS.k]
  have hz : ∀ m j, ig (List.replicate m 0) j = 0 := fun m j => by
    simp [ig, List.getD_eq_getElem?_getD, List.getElem?_replicate]
    split <;> rfl
  refine ⟨inv_new n h1 h2, by rw [hn]; simp, by rw [hk]; rfl, by rw [hk]; rfl, fun q hq => by omega, fun i hi => ?_, fun i hi => ?_, fun q hq => by omega, fun q hq => by omega, fun q q' _ hq => by omega, fun i q _ hq => by omega⟩
  · rw [hz]; exact ⟨by decide, by decide, by simp [EpS.rec_, hz]⟩
  · simp [EpS.ld, EpS.rec_, hz]
theorem Inv2.step (h : Inv2 s t pin sl tm) : Inv2 s (t + 1) pin sl tm :=
  ⟨h.inv.mono (Nat.le_succ t), h.pl, h.sl_, h.tl, h.se, fun i hi => by obtain ⟨a, b, c⟩ := h.pr i hi; exact ⟨a, by omega, c⟩, h.le, fun q hq => by have := h.tt q hq; omega, h.ge, h.so, h.key⟩
theorem ld_set1 {i : Nat} (hi : i < s.n) (u : Int) (j : Nat) : ({ s with ws := s.ws.set (i * 2 + 1) u } : EpS).ld j = s.ld j ∧ ({ s with ws := s.ws.set (i * 2 + 1) u } : EpS).rec_ j = if i = j then u else s.rec_ j := by
  have hl : i * 2 + 1 < s.ws.length := by unfold EpS.n at hi; omega
  refine ⟨?_, ?_⟩
  · show ig (s.ws.set (i * 2 + 1) u) (j * 2) = _
    rw [ig_set hl, if_neg (by omega)]; rfl
  · show ig (s.ws.set (i * 2 + 1) u) (j * 2 + 1) = _
    rw [ig_set hl]
    by_cases h : i = j
    · rw [if_pos h, if_pos (by omega)]
    · rw [if_neg h, if_neg (by omega)]; rfl
theorem ld_set0 {i : Nat} (hi : i < s.n) (u : Int) (j : Nat) : ({ s with ws := s.ws.set (i * 2) u } : EpS).ld j = (if i = j then u else s.ld j) ∧ ({ s with ws := s.ws.set (i * 2) u } : EpS).rec_ j = s.rec_ j := by
  have hl : i * 2 < s.ws.length := by unfold EpS.n at hi; omega
  refine ⟨?_, ?_⟩
  · show ig (s.ws.set (i * 2) u) (j * 2) = _
    rw [ig_set hl]
    by_cases h : i = j
    · rw [if_pos h, if_pos (by omega)]
    · rw [if_neg h, if_neg (by omega)]; rfl
  · show ig (s.ws.set (i * 2) u) (j * 2 + 1) = _
    rw [ig_set hl, if_neg (by omega)]; rfl
theorem Inv2.load (h : Inv2 s t pin sl tm) (x : Int) : Inv2 (s.loadS x) t pin sl tm := by
  have hi := inv_load h.inv x
  unfold EpS.loadS at hi ⊢
  split
  · rename_i hx
    rw [if_pos hx] at hi
    obtain ⟨i, rfl, hin⟩ := has_true hx
    rw [Int.toNat_natCast] at hi ⊢
    have hw := fun j => ld_set0 hin (s.ep : Int) j
    refine ⟨hi, by rw [n_set]; exact h.pl, h.sl_, h.tl, h.se, fun j hj => ?_, fun j hj => ?_, h.tt, h.ge, h.so, fun j q hj hq => ?_⟩
    · rw [n_set] at hj; rw [(hw j).2]; exact h.pr j hj
    · rw [n_set] at hj
      rw [(hw j).1, (hw j).2]
      have := h.le j hj
      refine ⟨?_, this.2⟩
      split
      · exact Int.le_refl _
      · exact this.1
    · rw [n_set] at hj; rw [(hw j).2]; exact h.key j q hj hq
  · exact h
theorem Inv2.pind (h : Inv2 s t pin sl tm) {i : Nat} (hb : s.pinB i = true) : i < s.n ∧ ig pin i = 0 ∧ Inv2 (s.pinS i) (t + 1) (pin.set i (t + 1)) sl tm := by
  have hb' := hb
  unfold EpS.pinB at hb'
  simp only [Bool.and_eq_true, beq_iff_eq, Int.toNat_natCast] at hb'
  obtain ⟨j, hj, hin⟩ := has_true hb'.1
  obtain rfl : i = j := by omega
  have hp0 := ((h.pr i hin).2.2).2 hb'.2
  refine ⟨hin, hp0, ?_⟩
  have hi := (inv_pin h.inv (i : Int)).mono (Nat.le_succ t)
  have e1 : s.pinS i = { s with ws := s.ws.set (i * 2 + 1) (s.ld i + 1) } := by unfold EpS.pinS; rw [hb]; rfl
  rw [e1] at hi ⊢
  have hw := fun j => ld_set1 hin (s.ld i + 1) j
  have hpl : i < pin.length := by rw [h.pl]; exact hin
  have hl0 := (h.inv.ld i hin).1
  refine ⟨hi, by rw [n_set]; simpa using h.pl, h.sl_, h.tl, h.se, fun j hj => ?_, fun j hj => ?_, fun q hq => by have := h.tt q hq; omega, h.ge, h.so, fun j q hj hq => ?_⟩
  · rw [n_set] at hj
    rw [(hw j).2, ig_set hpl]
    obtain ⟨a, b, c⟩ := h.pr j hj
    split
    · exact ⟨by omega, by omega, by constructor <;> intro q <;> omega⟩
    · exact ⟨a, by omega, c⟩
  · rw [n_set] at hj
    rw [(hw j).1, (hw j).2]
    have h1 := h.le j hj
    have h2 := h.le i hin
    refine ⟨h1.1, ?_⟩
    show (if i = j then s.ld i + 1 else s.rec_ j) ≤ (s.ep : Int) + 1
    split
    · omega
    · exact h1.2
  · rw [n_set] at hj
    rw [(hw j).2, ig_set hpl]
    by_cases hij : i = j
    · rw [if_pos hij]
      intro _ hlt
      have := h.tt q hq
      omega
    · rw [if_neg hij, if_neg hij]
      exact h.key j q hj hq
theorem Inv2.unp (h : Inv2 s t pin sl tm) {i : Nat} (hb : s.unpB i = true) : i < s.n ∧ ig pin i ≠ 0 ∧ Inv2 (s.unpS i) t (pin.set i 0) sl tm := by
  have hb' := hb
  unfold EpS.unpB at hb'
  simp only [Bool.and_eq_true, bne_iff_ne, Int.toNat_natCast] at hb'
  obtain ⟨j, hj, hin⟩ := has_true hb'.1
  obtain rfl : i = j := by omega
  refine ⟨hin, fun e => hb'.2 (((h.pr i hin).2.2).1 e), ?_⟩
  have hi := inv_unp h.inv (i : Int)
  have e1 : s.unpS i = { s with ws := s.ws.set (i * 2 + 1) 0 } := by unfold EpS.unpS; rw [hb]; rfl
  rw [e1] at hi ⊢
  have hw := fun j => ld_set1 hin 0 j
  have hpl : i < pin.length := by rw [h.pl]; exact hin
  refine ⟨hi, by rw [n_set]; simpa using h.pl, h.sl_, h.tl, h.se, fun j hj => ?_, fun j hj => ?_, h.tt, h.ge, h.so, fun j q hj hq => ?_⟩
  · rw [n_set] at hj
    rw [(hw j).2, ig_set hpl]
    obtain ⟨a, b, c⟩ := h.pr j hj
    split
    · exact ⟨by omega, by omega, by constructor <;> intro q <;> rfl⟩
    · exact ⟨a, b, c⟩
  · rw [n_set] at hj
    rw [(hw j).1, (hw j).2]
    have h1 := h.le j hj
    refine ⟨h1.1, ?_⟩
    show (if i = j then 0 else s.rec_ j) ≤ (s.ep : Int) + 1
    split
    · omega
    · exact h1.2
  · rw [n_set] at hj
    rw [(hw j).2, ig_set hpl]
    by_cases hij : i = j
    · rw [if_pos hij]; intro q; omega
    · rw [if_neg hij, if_neg hij]
      exact h.key j q hj hq
theorem Inv2.ret (h : Inv2 s t pin sl tm) {x : Int} (hb : s.retB x = true) : Inv2 (s.retS x) (t + 1) pin (sl ++ [x]) (tm ++ [(t : Int) + 1]) := by
  have hi := inv_ret h.inv x
  have e1 : s.retS x = { s with fl := s.fl ++ [x, (s.ep : Int)] } := by unfold EpS.retS; rw [hb]; rfl
  have e2 : ({ s with fl := s.fl ++ [x, (s.ep : Int)] } : EpS).k = s.k + 1 := by simp [EpS.k]
  rw [e1] at hi ⊢
  have hf := h.inv.fl
  have hg : ∀ q, q < s.k → ({ s with fl := s.fl ++ [x, (s.ep : Int)] } : EpS).gen_ q = s.gen_ q := fun q hq => ig_append_left (by omega)
  have hgk : ({ s with fl := s.fl ++ [x, (s.ep : Int)] } : EpS).gen_ s.k = s.ep := by
    show ig (s.fl ++ [x, (s.ep : Int)]) (s.k * 2 + 1) = _
    rw [ig_append_right (by omega), show s.k * 2 + 1 - s.fl.length = 1 by omega]; rfl
  have htm : ∀ q, q < s.k → ig (tm ++ [(t : Int) + 1]) q = ig tm q := fun q hq => ig_append_left (by rw [h.tl]; exact hq)
  have htk : ig (tm ++ [(t : Int) + 1]) s.k = (t : Int) + 1 := by rw [ig_append_right (by rw [h.tl]; exact Nat.le_refl _), h.tl, Nat.sub_self]; rfl
  refine ⟨hi, h.pl, by rw [e2]; simp [h.sl_], by rw [e2]; simp [h.tl], fun q hq => ?_, fun i hi => by obtain ⟨a, b, c⟩ := h.pr i hi; exact ⟨a, by omega, c⟩, h.le, fun q hq => ?_, fun q hq => ?_, fun q q' hqq hq => ?_, fun i q hin hq hp hlt => ?_⟩
  · rw [e2] at hq
    show ig (sl ++ [x]) q = ig (s.fl ++ [x, (s.ep : Int)]) (q * 2)
    by_cases hqk : q < s.k
    · rw [ig_append_left (by rw [h.sl_]; exact hqk), ig_append_left (by omega)]; exact h.se q hqk
    · obtain rfl : q = s.k := by omega
      rw [ig_append_right (by rw [h.sl_]; exact Nat.le_refl _), ig_append_right (by omega), h.sl_, Nat.sub_self, show s.k * 2 - s.fl.length = 0 by omega]; rfl
  · rw [e2] at hq
    by_cases hqk : q < s.k
    · rw [htm q hqk]; have := h.tt q hqk; omega
    · obtain rfl : q = s.k := by omega
      rw [htk]; omega
  · rw [e2] at hq
    by_cases hqk : q < s.k
    · rw [hg q hqk]; exact h.ge q hqk
    · obtain rfl : q = s.k := by omega
      rw [hgk]; exact Int.le_refl _
  · rw [e2] at hq
    by_cases hqk : q' < s.k
    · rw [hg q (by omega), hg q' hqk]; exact h.so q q' hqq hqk
    · obtain rfl : q' = s.k := by omega
      rw [hgk]
      by_cases hq2 : q < s.k
      · rw [hg q hq2]; exact h.ge q hq2
      · obtain rfl : q = s.k := by omega
        rw [hgk]; exact Int.le_refl _
  · rw [e2] at hq
    by_cases hqk : q < s.k
    · rw [htm q hqk] at hlt
      rw [hg q hqk]
      exact h.key i q hin hqk hp hlt
    · obtain rfl : q = s.k := by omega
      rw [hgk]
      exact ⟨(h.le i hin).2, Or.inl (Int.le_refl _)⟩
theorem Inv2.look (h : Inv2 s t pin sl tm) : Inv2 s.look (t + 1) pin sl tm := by
  have hi := inv_look h.inv
  have hs := h.step
  have hat := h.inv.at_
  unfold EpS.look at hi ⊢
  split
  · rename_i hh
    rw [if_pos hh] at hi
    exact ⟨hi, hs.pl, hs.sl_, hs.tl, hs.se, hs.pr, hs.le, hs.tt, hs.ge, hs.so, fun i q h1 h2 h3 h4 => by
      obtain ⟨a, b⟩ := h.key i q h1 h2 h3 h4
      exact ⟨a, b.imp_right fun b => ⟨b.1, Nat.zero_le _⟩⟩⟩
  · rename_i hh
    rw [if_neg hh] at hi
    have hrec : s.rec_ s.at_ = 0 ∨ s.rec_ s.at_ = (s.ep : Int) + 1 := by
      simp only [EpS.held, Bool.and_eq_true, bne_iff_ne, ne_eq] at hh
      omega
    have hno : ∀ i q, i < s.n → q < s.k → 0 < ig pin i → ig pin i < ig tm q → (s.ep : Int) = s.gen_ q + 1 → i ≠ s.at_ := by
      intro i q h1 h2 h3 h4 h5 e
      obtain ⟨a, _⟩ := h.key i q h1 h2 h3 h4
      have hp := (h.pr i h1).2.2
      rw [e] at a hp h3
      rcases hrec with r | r
      · have := hp.2 r; omega
      · omega
    split
    · rename_i hk
      rw [if_pos hk] at hi
      exact ⟨hi, hs.pl, hs.sl_, hs.tl, hs.se, hs.pr, hs.le, hs.tt, hs.ge, hs.so, fun i q h1 h2 h3 h4 => by
        obtain ⟨a, b⟩ := h.key i q h1 h2 h3 h4
        refine ⟨a, b.imp_right fun b => ⟨b.1, ?_⟩⟩
        have := hno i q h1 h2 h3 h4 b.1
        show s.at_ + 1 ≤ i
        omega⟩
    · rename_i hk
      rw [if_neg hk] at hi
      refine ⟨hi, hs.pl, hs.sl_, hs.tl, hs.se, hs.pr, fun i hi' => by have := h.le i hi'; exact ⟨by show s.ld i ≤ ((s.ep + 1 : Nat) : Int); omega, by show s.rec_ i ≤ ((s.ep + 1 : Nat) : Int) + 1; omega⟩, hs.tt, fun q hq => by have := h.ge q hq; show s.gen_ q ≤ ((s.ep + 1 : Nat) : Int); omega, hs.so, fun i q h1 h2 h3 h4 => ?_⟩
      obtain ⟨a, b⟩ := h.key i q h1 h2 h3 h4
      refine ⟨a, ?_⟩
      show (((s.ep + 1 : Nat) : Int) ≤ s.gen_ q) ∨ (((s.ep + 1 : Nat) : Int) = s.gen_ q + 1 ∧ 0 ≤ i)
      rcases b with b | b
      · by_cases e : (s.ep : Int) = s.gen_ q
        · exact Or.inr ⟨by omega, Nat.zero_le _⟩
        · exact Or.inl (by omega)
      · have := hno i q h1 h2 h3 h4 b.1
        have h1' : i < s.n := h1
        omega
end
end Go.Proofs.Ytgcoecibhonfnaa
