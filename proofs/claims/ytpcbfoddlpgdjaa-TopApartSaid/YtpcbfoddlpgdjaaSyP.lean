/- A stable sort in place: plain law: exchanges, rotations, merges of neighbours, as functions of a place. -/
import Derived.Test.YtpcbfoddlpgdjaaBase
namespace Go.Proofs.Ytpcbfoddlpgdjaa
section
variable {α : Type}
/-- Two places exchanged. -/
def swF (f : Nat → α) (i j : Nat) : Nat → α := fun x => if x = i then f j else if x = j then f i else f x
/-- Two ranges of places exchanged. -/
def swR (f : Nat → α) (x y n : Nat) : Nat → α := fun z => if x ≤ z ∧ z < x + n then f (z - x + y) else if y ≤ z ∧ z < y + n then f (z - y + x) else f z
/-- What lies ahead of m put behind what lies behind it. -/
def roF (f : Nat → α) (a m b : Nat) : Nat → α := fun z => if a ≤ z ∧ z < a + (b - m) then f (z + (m - a)) else if a + (b - m) ≤ z ∧ z < b then f (z - (b - m)) else f z
theorem swR_zero (f : Nat → α) (x y : Nat) : swR f x y 0 = f := by
  funext z; unfold swR; rw [if_neg (by omega), if_neg (by omega)]
theorem swR_succ (f : Nat → α) {x y n : Nat} (h : x + (n + 1) ≤ y) : swR f x y (n + 1) = swF (swR f x y n) (x + n) (y + n) := by
  funext z
  unfold swF swR
  by_cases h1 : z = x + n
  · subst h1
    rw [if_pos (by omega), if_pos rfl, if_neg (by omega), if_neg (by omega)]
    congr 1; omega
  · by_cases h2 : z = y + n
    · subst h2
      rw [if_neg (by omega), if_pos (by omega), if_neg (by omega), if_pos rfl, if_neg (by omega), if_neg (by omega)]
      congr 1; omega
    · rw [if_neg h1, if_neg h2]
      by_cases h3 : x ≤ z ∧ z < x + n
      · rw [if_pos (by omega), if_pos h3]
      · rw [if_neg (by omega), if_neg h3]
        by_cases h4 : y ≤ z ∧ z < y + n
        · rw [if_pos (by omega), if_pos h4]
        · rw [if_neg (by omega), if_neg h4]
theorem roF_left (f : Nat → α) {m i j : Nat} (him : i ≤ m) (h : j < i) : roF f (m - i) m (m + j) = roF (swR f (m - i) m j) (m - (i - j)) m (m + j) := by
  funext z
  unfold roF
  by_cases h1 : m - i ≤ z ∧ z < m - i + (m + j - m)
  · rw [if_pos h1, if_neg (by omega), if_neg (by omega)]
    unfold swR
    rw [if_pos (by omega)]
    congr 1; omega
  · rw [if_neg h1]
    by_cases h2 : m - i + (m + j - m) ≤ z ∧ z < m + j
    · rw [if_pos h2]
      by_cases h3 : z < m - (i - j) + (m + j - m)
      · rw [if_pos (by omega)]
        unfold swR
        rw [if_neg (by omega), if_pos (by omega)]
        congr 1; omega
      · rw [if_neg (by omega), if_pos (by omega)]
        unfold swR
        rw [if_neg (by omega), if_neg (by omega)]
    · rw [if_neg h2, if_neg (by omega), if_neg (by omega)]
      unfold swR
      rw [if_neg (by omega), if_neg (by omega)]
theorem roF_right (f : Nat → α) {m i j : Nat} (him : i ≤ m) (h : i < j) : roF f (m - i) m (m + j) = roF (swR f (m - i) (m + j - i) i) (m - i) m (m + (j - i)) := by
  funext z
  unfold roF
  by_cases h1 : m - i ≤ z ∧ z < m - i + (m + (j - i) - m)
  · rw [if_pos (by omega), if_pos h1]
    unfold swR
    by_cases h2 : z + (m - (m - i)) < m + j - i
    · rw [if_neg (by omega), if_neg (by omega)]
    · exfalso; omega
  · rw [if_neg h1]
    by_cases h2 : m - i + (m + (j - i) - m) ≤ z ∧ z < m + (j - i)
    · rw [if_pos (by omega), if_pos h2]
      unfold swR
      rw [if_pos (by omega)]
      congr 1; omega
    · rw [if_neg h2]
      unfold swR
      by_cases h3 : m + j - i ≤ z ∧ z < m + j
      · rw [if_neg (by omega), if_pos (by omega), if_neg (by omega), if_pos (by omega)]
        congr 1; omega
      · rw [if_neg (by omega), if_neg (by omega), if_neg (by omega), if_neg (by omega)]
theorem roF_same (f : Nat → α) {m i : Nat} (him : i ≤ m) : roF f (m - i) m (m + i) = swR f (m - i) m i := by
  funext z
  unfold roF swR
  by_cases h1 : m - i ≤ z ∧ z < m - i + i
  · rw [if_pos (by omega), if_pos h1]
    congr 1; omega
  · rw [if_neg (by omega), if_neg h1]
    by_cases h2 : m ≤ z ∧ z < m + i
    · rw [if_pos (by omega), if_pos h2]
      congr 1; omega
    · rw [if_neg (by omega), if_neg h2]
/-- As a list. -/
def asL (f : Nat → α) (n : Nat) : List α := (List.range n).map f
theorem asL_get {f : Nat → α} {n i : Nat} (h : i < n) : (asL f n)[i]? = some (f i) := by
  rw [asL, List.getElem?_map, List.getElem?_range h]; rfl
theorem asL_len (f : Nat → α) (n : Nat) : (asL f n).length = n := by simp [asL]
theorem perm_set2 (l : List α) (i j : Nat) (u v : α) (hi : l[i]? = some u) (hj : l[j]? = some v) : ((l.set i v).set j u).Perm l := by
  obtain ⟨h1, rfl⟩ := List.getElem?_eq_some_iff.1 hi
  obtain ⟨h2, rfl⟩ := List.getElem?_eq_some_iff.1 hj
  exact List.set_set_perm h1 h2
theorem asL_sw {f : Nat → α} {n i j : Nat} (hi : i < n) (hj : j < n) : (asL (swF f i j) n).Perm (asL f n) := by
  have key : ∀ i j, i < j → j < n → (asL (swF f i j) n).Perm (asL f n) := fun i j hij hj => by
    have e : asL (swF f i j) n = ((asL f n).set i (f j)).set j (f i) := by
      refine List.ext_getElem? fun x => ?_
      by_cases hx : x < n
      · rw [asL_get hx, List.getElem?_set, List.getElem?_set]
        unfold swF
        simp only [List.length_set, asL_len]
        by_cases h1 : x = i
        · subst h1
          rw [if_pos rfl, if_neg (by omega), if_pos rfl, if_pos hx]
        · by_cases h2 : x = j
          · subst h2
            rw [if_neg h1, if_pos rfl, if_pos rfl, if_pos hx]
          · rw [if_neg h1, if_neg h2, if_neg (fun e => h2 e.symm), if_neg (fun e => h1 e.symm), asL_get hx]
      · rw [List.getElem?_eq_none (by rw [asL_len]; omega), List.getElem?_eq_none (by simp [asL_len]; omega)]
    rw [e]
    exact perm_set2 _ _ _ _ _ (asL_get (by omega)) (asL_get hj)
  rcases Nat.lt_trichotomy i j with h | h | h
  · exact key i j h hj
  · subst h
    have : swF f i i = f := by funext x; unfold swF; split <;> simp_all
    rw [this]
  · have : swF f i j = swF f j i := by
      funext x; unfold swF
      by_cases h1 : x = i
      · rw [if_pos h1, if_neg (by omega), if_pos h1]
      · rw [if_neg h1, if_neg h1]
    rw [this]
    exact key j i h hi
theorem asL_swR {f : Nat → α} {n x y k : Nat} (h : x + k ≤ y) (hy : y + k ≤ n) : (asL (swR f x y k) n).Perm (asL f n) := by
  induction k with
  | zero => rw [swR_zero]
  | succ k ih => rw [swR_succ f h]; exact (asL_sw (by omega) (by omega)).trans (ih (by omega) (by omega))
/-- What lies between a and b came from there; the rest is as it was. -/
def Into (f f' : Nat → α) (a b : Nat) : Prop := (∀ z, a ≤ z → z < b → ∃ y, a ≤ y ∧ y < b ∧ f' z = f y) ∧ ∀ z, ¬ (a ≤ z ∧ z < b) → f' z = f z
theorem Into.refl (f : Nat → α) (a b : Nat) : Into f f a b := ⟨fun z h1 h2 => ⟨z, h1, h2, rfl⟩, fun _ _ => rfl⟩
theorem Into.trans {f g h : Nat → α} {a b : Nat} (h1 : Into f g a b) (h2 : Into g h a b) : Into f h a b := by
  refine ⟨fun z ha hb => ?_, fun z hz => (h2.2 z hz).trans (h1.2 z hz)⟩
  obtain ⟨y, y1, y2, e⟩ := h2.1 z ha hb
  obtain ⟨x, x1, x2, e'⟩ := h1.1 y y1 y2
  exact ⟨x, x1, x2, e.trans e'⟩
theorem Into.wide {f g : Nat → α} {a b a' b' : Nat} (h : Into f g a b) (ha : a' ≤ a) (hb : b ≤ b') : Into f g a' b' := by
  refine ⟨fun z h1 h2 => ?_, fun z hz => h.2 z (fun q => hz ⟨by omega, by omega⟩)⟩
  by_cases hz : a ≤ z ∧ z < b
  · obtain ⟨y, y1, y2, e⟩ := h.1 z hz.1 hz.2
    exact ⟨y, by omega, by omega, e⟩
  · exact ⟨z, h1, h2, h.2 z hz⟩
theorem Into.sw {f : Nat → α} {i j a b : Nat} (h1 : a ≤ i) (h2 : i < b) (h3 : a ≤ j) (h4 : j < b) : Into f (swF f i j) a b := by
  refine ⟨fun z ha hb => ?_, fun z hz => ?_⟩
  · unfold swF
    split
    · exact ⟨j, h3, h4, rfl⟩
    · split
      · exact ⟨i, h1, h2, rfl⟩
      · exact ⟨z, ha, hb, rfl⟩
  · unfold swF
    rw [if_neg (by rintro rfl; exact hz ⟨h1, h2⟩), if_neg (by rintro rfl; exact hz ⟨h3, h4⟩)]
theorem Into.ro {f : Nat → α} {a m b : Nat} (h1 : a ≤ m) (h2 : m ≤ b) : Into f (roF f a m b) a b := by
  refine ⟨fun z ha hb => ?_, fun z hz => ?_⟩
  · unfold roF
    by_cases h : a ≤ z ∧ z < a + (b - m)
    · rw [if_pos h]; exact ⟨_, by omega, by omega, rfl⟩
    · rw [if_neg h, if_pos (by omega)]; exact ⟨_, by omega, by omega, rfl⟩
  · unfold roF
    rw [if_neg (by omega), if_neg (by omega)]
variable {le : α → α → Prop}
/-- In order between a and b. -/
def Srt (le : α → α → Prop) (f : Nat → α) (a b : Nat) : Prop := ∀ i j, a ≤ i → i < j → j < b → le (f i) (f j)
theorem Srt.sub {f : Nat → α} {a b a' b' : Nat} (h : Srt le f a b) (ha : a ≤ a') (hb : b' ≤ b) : Srt le f a' b' := fun i j h1 h2 h3 => h i j (by omega) h2 (by omega)
theorem Srt.keep {f g : Nat → α} {a b : Nat} (h : Srt le f a b) (e : ∀ z, a ≤ z → z < b → g z = f z) : Srt le g a b := fun i j h1 h2 h3 => by
  rw [e i h1 (by omega), e j (by omega) h3]; exact h i j h1 h2 h3
theorem Srt.one (f : Nat → α) {a b : Nat} (h : b ≤ a + 1) : Srt le f a b := fun i j h1 h2 h3 => by omega
/-- Two parts in order, all of the first one ahead. -/
theorem Srt.join {f : Nat → α} {a m b : Nat} (h1 : Srt le f a m) (h2 : Srt le f m b) (h : ∀ i j, a ≤ i → i < m → m ≤ j → j < b → le (f i) (f j)) : Srt le f a b := fun i j hi hij hj => by
  by_cases q : j < m
  · exact h1 i j hi hij q
  · by_cases p : m ≤ i
    · exact h2 i j p hij hj
    · exact h i j hi (by omega) (by omega) hj
/-- One element goes back to its place. -/
def InsI (le : α → α → Prop) (f : Nat → α) (a i j : Nat) : Prop := ∀ p q, a ≤ p → p < q → q ≤ i → q ≠ j → le (f p) (f q)
theorem InsI.start {f : Nat → α} {a i : Nat} (h : Srt le f a i) : InsI le f a i i := fun p q h1 h2 h3 h4 => h p q h1 h2 (by omega)
theorem InsI.stop {f : Nat → α} {a i j : Nat} (tr : ∀ x y z, le x y → le y z → le x z) (h : InsI le f a i j) (hj : j = a ∨ (a < j ∧ le (f (j - 1)) (f j))) : Srt le f a (i + 1) := fun p q h1 h2 h3 => by
  by_cases e : q = j
  · subst e
    rcases hj with hj | ⟨hj, hl⟩
    · omega
    · by_cases e2 : p = q - 1
      · subst e2; exact hl
      · exact tr _ _ _ (h p (q - 1) h1 (by omega) (by omega) (by omega)) hl
  · exact h p q h1 h2 (by omega) e
theorem InsI.step {f : Nat → α} {a i j : Nat} (h : InsI le f a i j) (hj : a < j) (hi : j ≤ i) (hl : le (f j) (f (j - 1))) : InsI le (swF f j (j - 1)) a i (j - 1) := fun p q h1 h2 h3 h4 => by
  unfold swF
  by_cases e : q = j
  · subst e
    rw [if_pos rfl, if_neg (by omega : p ≠ q)]
    by_cases e2 : p = q - 1
    · rw [if_pos e2]; exact hl
    · rw [if_neg e2]; exact h p (q - 1) h1 (by omega) (by omega) (by omega)
  · rw [if_neg e, if_neg h4]
    by_cases e2 : p = j
    · subst e2
      rw [if_pos rfl]; exact h (p - 1) q (by omega) (by omega) h3 e
    · rw [if_neg e2]
      by_cases e3 : p = j - 1
      · rw [if_pos e3]; exact h j q (by omega) (by omega) h3 e
      · rw [if_neg e3]; exact h p q h1 h2 h3 e
/-- Where the parts that are exchanged begin: what a search between start and r has found. -/
structure CutI (le : α → α → Prop) (f : Nat → α) (n s0 r0 s r : Nat) : Prop where
  b1 : s0 ≤ s
  b2 : s ≤ r
  b3 : r ≤ r0
  lo : s = s0 ∨ (s0 < s ∧ le (f (s - 1)) (f (n - s)))
  hi : r = r0 ∨ (r < r0 ∧ le (f (n - 1 - r)) (f r))
theorem CutI.start (f : Nat → α) {n s0 r0 : Nat} (h : s0 ≤ r0) : CutI le f n s0 r0 s0 r0 := ⟨Nat.le_refl _, h, Nat.le_refl _, .inl rfl, .inl rfl⟩
theorem CutI.up {f : Nat → α} {n s0 r0 s r c : Nat} (h : CutI le f n s0 r0 s r) (h1 : s ≤ c) (h2 : c < r) (hc : c < n) (hl : le (f c) (f (n - 1 - c))) : CutI le f n s0 r0 (c + 1) r := by
  have b1 := h.b1
  refine ⟨by omega, by omega, h.b3, .inr ⟨by omega, ?_⟩, h.hi⟩
  rw [Nat.add_sub_cancel, show n - (c + 1) = n - 1 - c by omega]; exact hl
theorem CutI.down {f : Nat → α} {n s0 r0 s r c : Nat} (h : CutI le f n s0 r0 s r) (h1 : s ≤ c) (h2 : c < r) (hl : le (f (n - 1 - c)) (f c)) : CutI le f n s0 r0 s c := by
  have b3 := h.b3
  exact ⟨h.b1, h1, by omega, h.lo, .inr ⟨by omega, hl⟩⟩
/-- Behind the rotation: all that lies ahead of the middle is ahead of all that lies behind it; four parts in order. -/
theorem cut_law {f : Nat → α} (tr : ∀ x y z, le x y → le y z → le x z) {a m b mid n s : Nat} (_hm : a ≤ m) (hb : m ≤ b) (hmid : mid = (a + b) / 2) (hn : n = mid + m)
    (h1 : Srt le f a m) (h2 : Srt le f m b) {s0 r0 : Nat} (hs0 : s0 = if mid < m then n - b else a) (hr0 : r0 = if mid < m then mid else m) (hc : CutI le f n s0 r0 s s) :
    a ≤ s ∧ s ≤ m ∧ s ≤ mid ∧ m ≤ n - s ∧ n - s ≤ b ∧ mid ≤ n - s ∧
    Srt le (roF f s m (n - s)) a s ∧ Srt le (roF f s m (n - s)) s mid ∧ Srt le (roF f s m (n - s)) mid (n - s) ∧ Srt le (roF f s m (n - s)) (n - s) b ∧
    ∀ i j, a ≤ i → i < mid → mid ≤ j → j < b → le (roF f s m (n - s) i) (roF f s m (n - s) j) := by
  obtain ⟨b1, _, b3, lo, hi⟩ := hc
  have hs : a ≤ s ∧ s ≤ m ∧ s ≤ mid ∧ m ≤ n - s ∧ n - s ≤ b ∧ mid ≤ n - s ∧ s ≤ n := by
    by_cases q : mid < m
    · rw [if_pos q] at hs0 hr0; omega
    · rw [if_neg q] at hs0 hr0; omega
  obtain ⟨p1, p2, p3, p4, p5, p6, p7⟩ := hs
  have eU : ∀ z, z < s → roF f s m (n - s) z = f z := fun z hz => by unfold roF; rw [if_neg (by omega), if_neg (by omega)]
  have eV : ∀ z, s ≤ z → z < mid → roF f s m (n - s) z = f (z + (m - s)) := fun z h1 h2 => by unfold roF; rw [if_pos (by omega)]
  have eW : ∀ z, mid ≤ z → z < n - s → roF f s m (n - s) z = f (z - (n - s - m)) := fun z h1 h2 => by unfold roF; rw [if_neg (by omega), if_pos (by omega)]
  have eX : ∀ z, n - s ≤ z → roF f s m (n - s) z = f z := fun z hz => by unfold roF; rw [if_neg (by omega), if_neg (by omega)]
  refine ⟨p1, p2, p3, p4, p5, p6, fun i j h3 h4 h5 => ?_, fun i j h3 h4 h5 => ?_, fun i j h3 h4 h5 => ?_, fun i j h3 h4 h5 => ?_, fun i j h3 h4 h5 h6 => ?_⟩
  · rw [eU i (by omega), eU j h5]; exact h1 i j h3 h4 (by omega)
  · rw [eV i h3 (by omega), eV j (by omega) h5]; exact h2 _ _ (by omega) (by omega) (by omega)
  · rw [eW i h3 (by omega), eW j (by omega) h5]; exact h1 _ _ (by omega) (by omega) (by omega)
  · rw [eX i h3, eX j (by omega)]; exact h2 i j (by omega) h4 h5
  · by_cases ci : i < s
    · rw [eU i ci]
      by_cases cj : j < n - s
      · rw [eW j h5 cj]; exact h1 i _ h3 (by omega) (by omega)
      · rw [eX j (by omega)]
        -- the first part's last one against the last part's first one
        have hlo : s0 < s ∧ le (f (s - 1)) (f (n - s)) := by
          rcases lo with e | e
          · exfalso
            by_cases q : mid < m
            · rw [if_pos q] at hs0; omega
            · rw [if_neg q] at hs0; omega
          · exact e
        have x1 : le (f i) (f (n - s)) := by
          by_cases e : i = s - 1
          · rw [e]; exact hlo.2
          · exact tr _ _ _ (h1 i (s - 1) h3 (by omega) (by omega)) hlo.2
        by_cases e : j = n - s
        · rw [e]; exact x1
        · exact tr _ _ _ x1 (h2 (n - s) j (by omega) (by omega) h6)
    · rw [eV i (by omega) h4]
      by_cases cj : j < n - s
      · rw [eW j h5 cj]
        have hhi : s < r0 ∧ le (f (n - 1 - s)) (f s) := by
          rcases hi with e | e
          · exfalso
            by_cases q : mid < m
            · rw [if_pos q] at hr0; omega
            · rw [if_neg q] at hr0; omega
          · exact e
        have x1 : le (f (i + (m - s))) (f s) := by
          by_cases e : i + (m - s) = n - 1 - s
          · rw [e]; exact hhi.2
          · exact tr _ _ _ (h2 (i + (m - s)) (n - 1 - s) (by omega) (by omega) (by omega)) hhi.2
        by_cases e : j - (n - s - m) = s
        · rw [e]; exact x1
        · exact tr _ _ _ x1 (h1 s (j - (n - s - m)) (by omega) (by omega) (by omega))
      · rw [eX j (by omega)]; exact h2 _ _ (by omega) (by omega) (by omega)
end
end Go.Proofs.Ytpcbfoddlpgdjaa
