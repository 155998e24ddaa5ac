/- Heaps: plain laws. -/
import Derived.Test.YtpcbfoddlpgdjaaRkJ
namespace Go.Proofs.Ytpcbfoddlpgdjaa
/-- A total order of spots. -/
structure Tot (ah : Sp → Sp → Bool) : Prop where
  irr : ∀ a, ah a a = false
  tr : ∀ a b c, ah a b = true → ah b c = true → ah a c = true
  tot : ∀ a b, ah a b = false → ah b a = false → a = b
theorem Tot.asym {ah : Sp → Sp → Bool} (h : Tot ah) {a b : Sp} (hab : ah a b = true) : ah b a = false := by
  cases e : ah b a
  · rfl
  · have := h.tr a b a hab e
    rw [h.irr] at this
    cases this
theorem Tot.nt {ah : Sp → Sp → Bool} (h : Tot ah) {a b c : Sp} (h1 : ah b a = false) (h2 : ah c b = false) : ah c a = false := by
  cases e : ah c a
  · rfl
  · cases e2 : ah a b
    · have := h.tot a b e2 h1
      subst this
      rw [e] at h2
      cases h2
    · rw [h.tr c a b e e2] at h2
      cases h2
theorem Tot.lt_nt {ah : Sp → Sp → Bool} (h : Tot ah) {a b c : Sp} (h1 : ah a b = true) (h2 : ah c b = false) : ah c a = false := by
  cases e : ah c a
  · rfl
  · rw [h.tr c a b e h1] at h2
    cases h2
theorem tot_ahB : Tot ahB where
  irr a := by rw [ahB_false]; omega
  tr a b c h1 h2 := by rw [ahB_iff] at *; omega
  tot a b h1 h2 := by
    rw [ahB_false] at *
    obtain ⟨d, i, s⟩ := a
    obtain ⟨d', i', s'⟩ := b
    simp only at h1 h2
    have e1 : d = d' := by omega
    have e2 : i = i' := by omega
    have e3 : s = s' := by omega
    rw [e1, e2, e3]
theorem tot_flip {ah : Sp → Sp → Bool} (h : Tot ah) : Tot fun a b => ah b a where
  irr a := h.irr a
  tr a b c h1 h2 := h.tr c b a h2 h1
  tot a b h1 h2 := h.tot a b h2 h1
def sg (L : List Sp) (i : Nat) : Sp := L.getD i ⟨0, 0, 0⟩
theorem sg_at {L : List Sp} {i : Nat} (hi : i < L.length) : L[i]? = some (sg L i) := by
  unfold sg
  rw [List.getD_eq_getElem?_getD, List.getElem?_eq_getElem hi]
  rfl
theorem sg_mem {L : List Sp} {i : Nat} (hi : i < L.length) : sg L i ∈ L := List.mem_of_getElem? (sg_at hi)
theorem sg_set {L : List Sp} {k j : Nat} {u : Sp} (hk : k < L.length) : sg (L.set k u) j = if k = j then u else sg L j := by
  simp only [sg, List.getD_eq_getElem?_getD, List.getElem?_set]
  split
  · rename_i h; subst h; simp
  · rfl
/-- Two spots change places. -/
def swp (L : List Sp) (i p : Nat) : List Sp := (L.set i (sg L p)).set p (sg L i)
theorem swp_len (L : List Sp) (i p : Nat) : (swp L i p).length = L.length := by simp [swp]
theorem sg_swp {L : List Sp} {i p : Nat} (hi : i < L.length) (hp : p < L.length) (j : Nat) : sg (swp L i p) j = if p = j then sg L i else if i = j then sg L p else sg L j := by
  unfold swp
  rw [sg_set (by simpa using hp), sg_set hi]
theorem swp_perm {L : List Sp} {i p : Nat} (hi : i < L.length) (hp : p < L.length) : (swp L i p).Perm L := by
  have e1 : sg L i = L[i] := by unfold sg; rw [List.getD_eq_getElem?_getD, List.getElem?_eq_getElem hi]; rfl
  have e2 : sg L p = L[p] := by unfold sg; rw [List.getD_eq_getElem?_getD, List.getElem?_eq_getElem hp]; rfl
  unfold swp
  rw [e1, e2]
  exact List.set_set_perm hi hp
/-- None is ahead of the one above it. -/
def Hp (ah : Sp → Sp → Bool) (L : List Sp) : Prop := ∀ j, 0 < j → j < L.length → ah (sg L j) (sg L ((j - 1) / 2)) = false
theorem Hp.first {ah : Sp → Sp → Bool} (ho : Tot ah) {L : List Sp} (h : Hp ah L) : ∀ j, j < L.length → ah (sg L j) (sg L 0) = false := by
  intro j
  induction j using Nat.strongRecOn with
  | _ j ih =>
    intro hj
    rcases Nat.eq_zero_or_pos j with rfl | h0
    · exact ho.irr _
    · exact ho.nt (ih ((j - 1) / 2) (by omega) (by omega)) (h j h0 hj)
theorem Hp.head {ah : Sp → Sp → Bool} (ho : Tot ah) {L : List Sp} (h : Hp ah L) {x : Sp} (hx : x ∈ L) : ah x (sg L 0) = false := by
  obtain ⟨j, hj⟩ := List.mem_iff_getElem?.1 hx
  have hl := (List.getElem?_eq_some_iff.1 hj).1
  have := h.first ho j hl
  rw [sg_at hl] at hj
  injection hj with hj
  rwa [hj] at this
/-- On the way up. -/
structure UpI (ah : Sp → Sp → Bool) (L0 L : List Sp) (i : Nat) : Prop where
  pm : L.Perm L0
  lt : i < L.length
  hp : ∀ j, 0 < j → j < L.length → j ≠ i → ah (sg L j) (sg L ((j - 1) / 2)) = false
  ch : ∀ j, 0 < j → j < L.length → (j - 1) / 2 = i → 0 < i → ah (sg L j) (sg L ((i - 1) / 2)) = false
theorem UpI.step {ah : Sp → Sp → Bool} (ho : Tot ah) {L0 L : List Sp} {i p : Nat} (h : UpI ah L0 L i) (h0 : 0 < i) (hp : (i - 1) / 2 = p) (ha : ah (sg L i) (sg L p) = true) : UpI ah L0 (swp L i p) p := by
  have hi := h.lt
  have hpi : p < i := by omega
  have hpl : p < L.length := by omega
  refine ⟨(swp_perm hi hpl).trans h.pm, by rw [swp_len]; exact hpl, fun j hj0 hj hne => ?_, fun j hj0 hj hq hp0 => ?_⟩
  · rw [swp_len] at hj
    rw [sg_swp hi hpl, sg_swp hi hpl, if_neg (Ne.symm hne)]
    by_cases hji : i = j
    · subst hji
      rw [if_pos rfl, hp, if_pos rfl]
      exact ho.asym ha
    · rw [if_neg hji]
      have hj1 := h.hp j hj0 hj (fun e => hji e.symm)
      by_cases hqp : p = (j - 1) / 2
      · rw [if_pos hqp]
        rw [← hqp] at hj1
        exact ho.lt_nt ha hj1
      · rw [if_neg hqp]
        by_cases hqi : i = (j - 1) / 2
        · rw [if_pos hqi]
          have := h.ch j hj0 hj hqi.symm h0
          rwa [hp] at this
        · rw [if_neg hqi]
          exact hj1
  · rw [swp_len] at hj
    have hr : (p - 1) / 2 < p := by omega
    rw [sg_swp hi hpl, sg_swp hi hpl, if_neg (show ¬ p = (p - 1) / 2 by omega), if_neg (show ¬ i = (p - 1) / 2 by omega), if_neg (show ¬ p = j by omega)]
    have h1 := h.hp p hp0 hpl (by omega)
    by_cases hji : i = j
    · rw [if_pos hji]; exact h1
    · rw [if_neg hji]
      have h2 := h.hp j hj0 hj (fun e => hji e.symm)
      rw [hq] at h2
      exact ho.nt h1 h2
theorem UpI.stop {ah : Sp → Sp → Bool} {L0 L : List Sp} {i : Nat} (h : UpI ah L0 L i) (hs : i = 0 ∨ ah (sg L i) (sg L ((i - 1) / 2)) = false) : Hp ah L := by
  intro j h0 hj
  by_cases hji : j = i
  · subst hji
    rcases hs with rfl | hs
    · omega
    · exact hs
  · exact h.hp j h0 hj hji
theorem UpI.start {ah : Sp → Sp → Bool} {L : List Sp} {x : Sp} (h : Hp ah L) : UpI ah (L ++ [x]) (L ++ [x]) L.length := by
  have hs : ∀ j, j < L.length → sg (L ++ [x]) j = sg L j := fun j hj => by
    simp only [sg, List.getD_eq_getElem?_getD]
    rw [List.getElem?_append_left hj]
  refine ⟨.refl _, by simp, fun j h0 hj hne => ?_, fun j h0 hj hq hl => ?_⟩
  · have hj' : j < L.length := by simp at hj; omega
    rw [hs j hj', hs _ (by omega)]
    exact h j h0 hj'
  · simp at hj
    omega
/-- On the way down. -/
structure DnI (ah : Sp → Sp → Bool) (L0 L : List Sp) (i : Nat) : Prop where
  pm : L.Perm L0
  hp : ∀ j, 0 < j → j < L.length → (j - 1) / 2 ≠ i → ah (sg L j) (sg L ((j - 1) / 2)) = false
  ch : ∀ j, 0 < j → j < L.length → (j - 1) / 2 = i → 0 < i → ah (sg L j) (sg L ((i - 1) / 2)) = false
theorem DnI.step {ah : Sp → Sp → Bool} (ho : Tot ah) {L0 L : List Sp} {i k : Nat} (h : DnI ah L0 L i) (hk0 : 0 < k) (hk : k < L.length) (hki : (k - 1) / 2 = i) (hb : ∀ j, 0 < j → j < L.length → (j - 1) / 2 = i → ah (sg L j) (sg L k) = false) (ha : ah (sg L k) (sg L i) = true) : DnI ah L0 (swp L i k) k := by
  have hi : i < L.length := by omega
  refine ⟨(swp_perm hi hk).trans h.pm, fun j hj0 hj hne => ?_, fun j hj0 hj hq _ => ?_⟩
  · rw [swp_len] at hj
    rw [sg_swp hi hk, sg_swp hi hk, if_neg (show ¬ k = (j - 1) / 2 from fun e => hne e.symm)]
    by_cases hqi : i = (j - 1) / 2
    · rw [if_pos hqi]
      by_cases hjk : k = j
      · rw [if_pos hjk]
        exact ho.asym ha
      · rw [if_neg hjk, if_neg (show ¬ i = j by omega)]
        exact hb j hj0 hj hqi.symm
    · rw [if_neg hqi]
      have h1 := h.hp j hj0 hj (fun e => hqi e.symm)
      rw [if_neg (show ¬ k = j from fun e => by subst e; exact hqi hki.symm)]
      by_cases hij : i = j
      · rw [if_pos hij]
        subst hij
        exact h.ch k hk0 hk hki hj0
      · rw [if_neg hij]
        exact h1
  · rw [swp_len] at hj
    rw [sg_swp hi hk, sg_swp hi hk, hki, if_neg (show ¬ k = i by omega), if_pos rfl, if_neg (show ¬ k = j by omega), if_neg (show ¬ i = j by omega)]
    have := h.hp j hj0 hj (by omega)
    rwa [hq] at this
theorem DnI.stop {ah : Sp → Sp → Bool} (ho : Tot ah) {L0 L : List Sp} {i k : Nat} (h : DnI ah L0 L i) (hk : L.length ≤ 2 * i + 1 ∨ ((∀ j, 0 < j → j < L.length → (j - 1) / 2 = i → ah (sg L j) (sg L k) = false) ∧ ah (sg L k) (sg L i) = false)) : Hp ah L := by
  intro j h0 hj
  by_cases hq : (j - 1) / 2 = i
  · rcases hk with hk | ⟨h1, h2⟩
    · omega
    · rw [hq]
      exact ho.nt h2 (h1 j h0 hj hq)
  · exact h.hp j h0 hj hq
/-- The last one in the first's place. -/
theorem DnI.start {ah : Sp → Sp → Bool} {L : List Sp} (h : Hp ah L) (h0 : 0 < L.length) : DnI ah ((L.set 0 (sg L (L.length - 1))).take (L.length - 1)) ((L.set 0 (sg L (L.length - 1))).take (L.length - 1)) 0 := by
  refine ⟨.refl _, fun j hj0 hj hq => ?_, fun j _ _ _ h => absurd h (by omega)⟩
  have hj' : j < L.length - 1 := by
    rw [List.length_take, List.length_set] at hj
    omega
  have hs : ∀ i, 0 < i → i < L.length - 1 → sg ((L.set 0 (sg L (L.length - 1))).take (L.length - 1)) i = sg L i := fun i hi0 hi => by
    simp only [sg, List.getD_eq_getElem?_getD]
    rw [List.getElem?_take, if_pos hi, List.getElem?_set, if_neg (by omega)]
  rw [hs j hj0 hj', hs _ (by omega) (by omega)]
  exact h j hj0 (by omega)
/-- What is left is all but the first. -/
theorem pop_perm {L : List Sp} (h0 : 0 < L.length) : (sg L 0 :: (L.set 0 (sg L (L.length - 1))).take (L.length - 1)).Perm L := by
  cases L with
  | nil => simp at h0
  | cons a l =>
    rcases List.eq_nil_or_concat l with rfl | ⟨l', b, rfl⟩
    · exact .refl _
    · have e1 : sg (a :: (l'.concat b)) ((a :: l'.concat b).length - 1) = b := by
        simp [sg, List.getD_eq_getElem?_getD]
      rw [e1]
      have e2 : ((a :: l'.concat b).set 0 b).take ((a :: l'.concat b).length - 1) = b :: l' := by
        simp
      rw [e2]
      show (a :: b :: l').Perm (a :: l'.concat b)
      rw [List.concat_eq_append]
      exact List.Perm.cons a (List.perm_append_comm (l₁ := [b]) (l₂ := l'))
end Go.Proofs.Ytpcbfoddlpgdjaa
