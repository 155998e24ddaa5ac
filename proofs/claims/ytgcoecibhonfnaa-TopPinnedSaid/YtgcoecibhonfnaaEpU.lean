/- The clock of package epoch and the document's: their steps, on one state. -/
import Derived.Test.YtgcoecibhonfnaaEpT
namespace Go.Proofs.Ytgcoecibhonfnaa
open Go.RowKit
/-- There is such a worker. -/
def EpS.has (s : EpS) (i : Int) : Bool := decide (0 ≤ i) && decide (i < s.n)
theorem has_true {s : EpS} {i : Int} (h : s.has i = true) : ∃ k : Nat, i = k ∧ k < s.n := by
  simp [EpS.has] at h
  exact ⟨i.toNat, by omega, by omega⟩
theorem has_false {s : EpS} {i : Int} (h : s.has i = false) : i < 0 ∨ (s.n : Int) ≤ i := by
  simp [EpS.has] at h
  omega
def EpS.lds (s : EpS) : List Int := (List.range s.n).map s.ld
def EpS.recs (s : EpS) : List Int := (List.range s.n).map s.rec_
theorem ig_map_range (f : Nat → Int) {n i : Nat} (h : i < n) : ig ((List.range n).map f) i = f i := by
  simp [ig, List.getD_eq_getElem?_getD, h]
theorem set_map_range (f : Nat → Int) (n i : Nat) (u : Int) : ((List.range n).map f).set i u = (List.range n).map fun j => if j = i then u else f j := by
  apply List.ext_getElem?
  intro j
  simp only [List.getElem?_set, List.getElem?_map, List.length_map, List.length_range]
  by_cases hj : j < n
  · rw [List.getElem?_range hj]
    by_cases h : i = j
    · subst h; simp [hj]
    · simp [h, show ¬ j = i from fun e => h e.symm]
  · rw [List.getElem?_eq_none (by simpa using hj)]
    by_cases h : i = j
    · subst h; simp [hj]
    · simp [h]
/-- The steps. -/
def EpS.loadS (s : EpS) (i : Int) : EpS := if s.has i then { s with ws := s.ws.set (i.toNat * 2) s.ep } else s
def EpS.loadV (s : EpS) (i : Int) : Int := if s.has i then s.ep else 0
def EpS.pinB (s : EpS) (i : Int) : Bool := s.has i && s.rec_ i.toNat == 0
def EpS.pinS (s : EpS) (i : Int) : EpS := if s.pinB i then { s with ws := s.ws.set (i.toNat * 2 + 1) (s.ld i.toNat + 1) } else s
def EpS.unpB (s : EpS) (i : Int) : Bool := s.has i && s.rec_ i.toNat != 0
def EpS.unpS (s : EpS) (i : Int) : EpS := if s.unpB i then { s with ws := s.ws.set (i.toNat * 2 + 1) 0 } else s
def EpS.retB (s : EpS) (x : Int) : Bool := !slotIn s.fl s.k x
def EpS.retS (s : EpS) (x : Int) : EpS := if s.retB x then { s with fl := s.fl ++ [x, (s.ep : Int)] } else s
def EpS.freeS (s : EpS) : EpS := { s with fl := keptN s.fl s.ep s.k }
def EpS.recV (s : EpS) (i : Int) : Int := if s.has i then s.rec_ i.toNat else 0
/-- What holds of a state after t steps. -/
structure EpS.Inv (s : EpS) (t : Nat) : Prop where
  n1 : 1 ≤ s.n
  n2 : s.n ≤ 64
  at_ : s.at_ < s.n
  ep : s.ep ≤ t
  k : s.k ≤ t
  fl : s.fl.length = s.k * 2
  ws : s.ws.length = s.n * 2
  ld : ∀ i, i < s.n → 0 ≤ s.ld i ∧ s.ld i ≤ t
  gen : ∀ j, j < s.k → 0 ≤ ig s.fl (j * 2 + 1) ∧ ig s.fl (j * 2 + 1) ≤ t
theorem inv_new (n : Nat) (h1 : 1 ≤ n) (h2 : n ≤ 64) : EpS.Inv ⟨0, 0, List.replicate (n * 2) 0, []⟩ 0 := by
  have hn : (⟨0, 0, List.replicate (n * 2) 0, []⟩ : EpS).n = n := by simp [EpS.n]
  have hk : (⟨0, 0, List.replicate (n * 2) 0, []⟩ : EpS).k = 0 := by simp [EpS.k]
  refine ⟨by omega, by omega, by rw [hn]; exact h1, Nat.le_refl _, by rw [hk]; exact Nat.le_refl _, by rw [hk]; rfl, by rw [hn]; simp, fun i hi => ?_, fun j hj => by omega⟩
  rw [hn] at hi
  simp [EpS.ld, ig, List.getD_eq_getElem?_getD, show i * 2 < n * 2 by omega]
theorem EpS.Inv.mono {s : EpS} {t t' : Nat} (h : s.Inv t) (ht : t ≤ t') : s.Inv t' :=
  ⟨h.n1, h.n2, h.at_, Nat.le_trans h.ep ht, Nat.le_trans h.k ht, h.fl, h.ws, fun i hi => by have := h.ld i hi; omega, fun j hj => by have := h.gen j hj; omega⟩
theorem inv_set {s : EpS} {t : Nat} (h : s.Inv t) (k : Nat) (u : Int) (hu : k % 2 = 0 → 0 ≤ u ∧ u ≤ t) : EpS.Inv { s with ws := s.ws.set k u } t := by
  have hn : ({ s with ws := s.ws.set k u } : EpS).n = s.n := by simp [EpS.n]
  refine ⟨by rw [hn]; exact h.n1, by rw [hn]; exact h.n2, by rw [hn]; exact h.at_, h.ep, h.k, h.fl, by rw [hn]; simpa using h.ws, fun i hi => ?_, h.gen⟩
  rw [hn] at hi
  have hi2 : i * 2 < s.ws.length := by rw [h.ws]; omega
  show 0 ≤ ig (s.ws.set k u) (i * 2) ∧ ig (s.ws.set k u) (i * 2) ≤ t
  by_cases hk : k < s.ws.length
  · rw [ig_set hk]
    split
    · exact hu (by omega)
    · exact h.ld i hi
  · rw [List.set_eq_of_length_le (by omega)]
    exact h.ld i hi
theorem inv_load {s : EpS} {t : Nat} (h : s.Inv t) (i : Int) : (s.loadS i).Inv t := by
  unfold EpS.loadS
  split
  · exact inv_set h _ _ fun _ => ⟨by omega, by have := h.ep; omega⟩
  · exact h
theorem inv_pin {s : EpS} {t : Nat} (h : s.Inv t) (i : Int) : (s.pinS i).Inv t := by
  unfold EpS.pinS
  split
  · exact inv_set h _ _ fun e => by omega
  · exact h
theorem inv_unp {s : EpS} {t : Nat} (h : s.Inv t) (i : Int) : (s.unpS i).Inv t := by
  unfold EpS.unpS
  split
  · exact inv_set h _ _ fun e => by omega
  · exact h
theorem ig_append_left {xs ys : List Int} {k : Nat} (h : k < xs.length) : ig (xs ++ ys) k = ig xs k := by
  simp [ig, List.getD_eq_getElem?_getD, List.getElem?_append_left h]
theorem ig_append_right {xs ys : List Int} {k : Nat} (h : xs.length ≤ k) : ig (xs ++ ys) k = ig ys (k - xs.length) := by
  simp [ig, List.getD_eq_getElem?_getD, List.getElem?_append_right h]
theorem inv_ret {s : EpS} {t : Nat} (h : s.Inv t) (x : Int) : (s.retS x).Inv (t + 1) := by
  unfold EpS.retS
  split
  · have hk : ({ s with fl := s.fl ++ [x, (s.ep : Int)] } : EpS).k = s.k + 1 := by simp [EpS.k]
    have h' := h.mono (Nat.le_succ t)
    refine ⟨h'.n1, h'.n2, h'.at_, h'.ep, by rw [hk]; have := h.k; omega, by rw [hk]; have := h.fl; simp; omega, h'.ws, h'.ld, fun j hj => ?_⟩
    rw [hk] at hj
    have hf := h.fl
    by_cases hjk : j < s.k
    · show 0 ≤ ig (s.fl ++ _) _ ∧ ig (s.fl ++ _) _ ≤ _
      rw [ig_append_left (by omega)]
      exact h'.gen j hjk
    · obtain rfl : j = s.k := by omega
      show 0 ≤ ig (s.fl ++ _) _ ∧ ig (s.fl ++ _) _ ≤ _
      rw [ig_append_right (by omega), show s.k * 2 + 1 - s.fl.length = 1 by omega]
      have := h.ep
      simp [ig]; omega
  · exact h.mono (Nat.le_succ t)
theorem inv_look {s : EpS} {t : Nat} (h : s.Inv t) : s.look.Inv (t + 1) := by
  have h' := h.mono (Nat.le_succ t)
  unfold EpS.look
  split
  · exact ⟨h'.n1, h'.n2, h.n1, h'.ep, h'.k, h'.fl, h'.ws, h'.ld, h'.gen⟩
  · split
    · rename_i hq
      exact ⟨h'.n1, h'.n2, hq, h'.ep, h'.k, h'.fl, h'.ws, h'.ld, h'.gen⟩
    · exact ⟨h'.n1, h'.n2, h.n1, by have := h.ep; show s.ep + 1 ≤ _; omega, h'.k, h'.fl, h'.ws, h'.ld, h'.gen⟩
theorem kept_gen (fl : List Int) (e : Int) (t : Int) : ∀ k, (∀ j, j < k → 0 ≤ ig fl (j * 2 + 1) ∧ ig fl (j * 2 + 1) ≤ t) → ∀ j, j * 2 + 1 < (keptN fl e k).length → 0 ≤ ig (keptN fl e k) (j * 2 + 1) ∧ ig (keptN fl e k) (j * 2 + 1) ≤ t
  | 0, _, j, hj => by simp [keptN] at hj
  | k + 1, h, j, hj => by
    have ih := kept_gen fl e t k fun j hj => h j (by omega)
    obtain ⟨i, hi, _⟩ := keptN_len fl e k
    rw [keptN_succ] at hj ⊢
    by_cases hl : j * 2 + 1 < (keptN fl e k).length
    · rw [ig_append_left hl]; exact ih j hl
    · rw [ig_append_right (by omega)]
      cases hr : ripe fl e k with
      | true => rw [hr] at hj; simp at hj; omega
      | false =>
        rw [hr] at hj
        simp at hj
        simp only [Bool.false_eq_true, if_false]
        rw [show j * 2 + 1 - (keptN fl e k).length = 1 by omega]
        exact h k (by omega)
theorem inv_free {s : EpS} {t : Nat} (h : s.Inv t) : s.freeS.Inv t := by
  obtain ⟨i, hi, hik⟩ := keptN_len s.fl s.ep s.k
  have hk : s.freeS.k = i := by simp [EpS.freeS, EpS.k] at *; omega
  refine ⟨h.n1, h.n2, h.at_, h.ep, by rw [hk]; have := h.k; omega, by rw [hk]; exact hi, h.ws, h.ld, fun j hj => ?_⟩
  rw [hk] at hj
  exact kept_gen s.fl s.ep t s.k h.gen j (by omega)
end Go.Proofs.Ytgcoecibhonfnaa
