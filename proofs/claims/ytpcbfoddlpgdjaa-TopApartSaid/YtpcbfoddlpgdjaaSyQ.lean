/- A stable sort in place: plain law, further: one element put among others; the end of a merge. -/
import Derived.Test.YtpcbfoddlpgdjaaSyP
namespace Go.Proofs.Ytpcbfoddlpgdjaa
section
variable {α : Type}
theorem roF_nil1 (f : Nat → α) (m b : Nat) : roF f m m b = f := by
  funext z; unfold roF
  by_cases h : m ≤ z ∧ z < m + (b - m)
  · rw [if_pos h]; congr 1; omega
  · rw [if_neg h, if_neg (by omega)]
theorem roF_nil2 (f : Nat → α) (a m : Nat) : roF f a m m = f := by
  funext z; unfold roF
  rw [if_neg (by omega)]
  split
  · congr 1; omega
  · rfl
theorem roF_up (f : Nat → α) {a k : Nat} (h : a ≤ k) : swF (roF f a (a + 1) (k + 1)) k (k + 1) = roF f a (a + 1) (k + 2) := by
  funext z; unfold swF roF
  by_cases h1 : z = k
  · subst h1
    rw [if_pos rfl, if_neg (by omega), if_neg (by omega), if_pos (by omega)]
    congr 1; omega
  · rw [if_neg h1]
    by_cases h2 : z = k + 1
    · subst h2
      rw [if_pos rfl, if_neg (by omega), if_pos (by omega), if_neg (by omega), if_pos (by omega)]
      congr 1; omega
    · rw [if_neg h2]
      by_cases h3 : a ≤ z ∧ z < k
      · rw [if_pos (by omega), if_pos (by omega)]
      · rw [if_neg (by omega), if_neg (by omega), if_neg (by omega), if_neg (by omega)]
theorem roF_dn (f : Nat → α) {k m : Nat} (h0 : 0 < k) (h : k ≤ m) : swF (roF f k m (m + 1)) k (k - 1) = roF f (k - 1) m (m + 1) := by
  funext z; unfold swF roF
  by_cases h1 : z = k
  · subst h1
    rw [if_pos rfl, if_neg (by omega), if_neg (by omega), if_neg (by omega), if_pos (by omega)]
    congr 1; omega
  · rw [if_neg h1]
    by_cases h2 : z = k - 1
    · subst h2
      rw [if_pos rfl, if_pos (by omega), if_pos (by omega)]
      congr 1; omega
    · rw [if_neg h2]
      by_cases h3 : k < z ∧ z < m + 1
      · rw [if_neg (by omega), if_pos (by omega), if_neg (by omega), if_pos (by omega)]
      · rw [if_neg (by omega), if_neg (by omega), if_neg (by omega), if_neg (by omega)]
variable {le : α → α → Prop}
theorem ins1_law {f : Nat → α} (tr : ∀ x y z, le x y → le y z → le x z) {a b i : Nat} (h : Srt le f (a + 1) b) (h1 : a + 1 ≤ i) (h2 : i ≤ b) (lo : ∀ z, a + 1 ≤ z → z < i → le (f z) (f a)) (hi : ∀ z, i ≤ z → z < b → le (f a) (f z)) : Srt le (roF f a (a + 1) i) a b := by
  have eV : ∀ z, a ≤ z → z < i - 1 → roF f a (a + 1) i z = f (z + 1) := fun z p q => by unfold roF; rw [if_pos (by omega)]; congr 1; omega
  have eM : roF f a (a + 1) i (i - 1) = f a := by unfold roF; rw [if_neg (by omega), if_pos (by omega)]; congr 1; omega
  have eX : ∀ z, i ≤ z → roF f a (a + 1) i z = f z := fun z p => by unfold roF; rw [if_neg (by omega), if_neg (by omega)]
  intro x y p q r
  by_cases cy : y < i - 1
  · rw [eV x p (by omega), eV y (by omega) cy]; exact h _ _ (by omega) (by omega) (by omega)
  · by_cases cy2 : y = i - 1
    · subst cy2
      rw [eM, eV x p q]; exact lo _ (by omega) (by omega)
    · rw [eX y (by omega)]
      by_cases cx : x < i - 1
      · rw [eV x p cx]; exact tr _ _ _ (lo _ (by omega) (by omega)) (hi y (by omega) r)
      · by_cases cx2 : x = i - 1
        · subst cx2; rw [eM]; exact hi y (by omega) r
        · rw [eX x (by omega)]; exact h x y (by omega) q r
theorem ins2_law {f : Nat → α} (tr : ∀ x y z, le x y → le y z → le x z) {a m i : Nat} (h : Srt le f a m) (h1 : a ≤ i) (h2 : i ≤ m) (lo : ∀ z, a ≤ z → z < i → le (f z) (f m)) (hi : ∀ z, i ≤ z → z < m → le (f m) (f z)) : Srt le (roF f i m (m + 1)) a (m + 1) := by
  have eU : ∀ z, z < i → roF f i m (m + 1) z = f z := fun z p => by unfold roF; rw [if_neg (by omega), if_neg (by omega)]
  have eM : roF f i m (m + 1) i = f m := by unfold roF; rw [if_pos (by omega)]; congr 1; omega
  have eW : ∀ z, i < z → z < m + 1 → roF f i m (m + 1) z = f (z - 1) := fun z p q => by unfold roF; rw [if_neg (by omega), if_pos (by omega)]; congr 1; omega
  intro x y p q r
  by_cases cy : y < i
  · rw [eU x (by omega), eU y cy]; exact h x y p q (by omega)
  · by_cases cy2 : y = i
    · subst cy2
      rw [eM, eU x q]; exact lo x p q
    · rw [eW y (by omega) r]
      by_cases cx : x < i
      · rw [eU x cx]
        exact tr _ _ _ (lo x p cx) (hi (y - 1) (by omega) (by omega))
      · by_cases cx2 : x = i
        · subst cx2; rw [eM]; exact hi _ (by omega) (by omega)
        · rw [eW x (by omega) (by omega)]; exact h _ _ (by omega) (by omega) (by omega)
/-- Both halves put in order: the whole is. -/
theorem fin_law {f1 f2 f3 : Nat → α} {a mid b : Nat} (hx : ∀ i j, a ≤ i → i < mid → mid ≤ j → j < b → le (f1 i) (f1 j)) (i1 : Into f1 f2 a mid) (i2 : Into f2 f3 mid b) (s1 : Srt le f2 a mid) (s2 : Srt le f3 mid b) : Srt le f3 a b := by
  refine Srt.join (s1.keep fun z p q => i2.2 z (by omega)) s2 fun i j p q r t => ?_
  obtain ⟨y, y1, y2, e⟩ := i1.1 i p q
  obtain ⟨x, x1, x2, e'⟩ := i2.1 j r t
  rw [i2.2 i (by omega), e, e', i1.2 x (by omega)]
  exact hx y x y1 y2 x1 x2
/-- What a search has found: all ahead of i are no greater than x, all from j on no less. -/
structure SeaI (le : α → α → Prop) (f : Nat → α) (x : α) (lo hi i j : Nat) : Prop where
  b1 : lo ≤ i
  b2 : i ≤ j
  b3 : j ≤ hi
  l : ∀ z, lo ≤ z → z < i → le (f z) x
  r : ∀ z, j ≤ z → z < hi → le x (f z)
theorem SeaI.start (f : Nat → α) (x : α) {lo hi : Nat} (h : lo ≤ hi) : SeaI le f x lo hi lo hi := ⟨Nat.le_refl _, h, Nat.le_refl _, fun z p q => by omega, fun z p q => by omega⟩
theorem SeaI.up {f : Nat → α} {x : α} {lo hi i j c : Nat} (tr : ∀ x y z, le x y → le y z → le x z) (hs : Srt le f lo hi) (h : SeaI le f x lo hi i j) (h1 : i ≤ c) (h2 : c < j) (hl : le (f c) x) : SeaI le f x lo hi (c + 1) j := by
  have b1 := h.b1
  have b3 := h.b3
  refine ⟨by omega, by omega, b3, fun z p q => ?_, h.r⟩
  by_cases e : z = c
  · rw [e]; exact hl
  · exact tr _ _ _ (hs z c p (by omega) (by omega)) hl
theorem SeaI.down {f : Nat → α} {x : α} {lo hi i j c : Nat} (tr : ∀ x y z, le x y → le y z → le x z) (hs : Srt le f lo hi) (h : SeaI le f x lo hi i j) (h1 : i ≤ c) (h2 : c < j) (hl : le x (f c)) : SeaI le f x lo hi i c := by
  have b1 := h.b1
  have b3 := h.b3
  refine ⟨b1, h1, by omega, h.l, fun z p q => ?_⟩
  by_cases e : z = c
  · rw [e]; exact hl
  · exact tr _ _ _ hl (hs c z (by omega) (by omega) q)
end
end Go.Proofs.Ytpcbfoddlpgdjaa
