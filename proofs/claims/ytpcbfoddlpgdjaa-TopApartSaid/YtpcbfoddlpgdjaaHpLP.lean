/- Heaps: laws. -/
import Derived.Test.YtpcbfoddlpgdjaaRkJ
namespace Go.Proofs.Ytpcbfoddlpgdjaa
/-- A total order of spots. -/
structure Tot (ah : Sp → Sp → Bool) : Prop where
  irr : ∀ a, ah a a = false
  tr : ∀ a b c, ah a b = true → ah b c = true → ah a c = true
  tot : ∀ a b, ah a b = false → ah b a = false → a = b
theorem Tot.asym {ah : Sp → Sp → Bool} (h : Tot ah) {a b : Sp} (hab : ah a b = true) : ah b a = false := by
  cases e : ah b a
  · rfl
  · have := h.tr a b a hab e
    rw [h.irr] at this
    cases this
theorem Tot.nt {ah : Sp → Sp → Bool} (h : Tot ah) {a b c : Sp} (h1 : ah b a = false) (h2 : ah c b = false) : ah c a = false := by
  cases e : ah c a
  · rfl
  · cases e2 : ah a b
    · have := h.tot a b e2 h1
      subst this
      rw [e] at h2
      cases h2
    · rw [h.tr c a b e e2] at h2
      cases h2
theorem Tot.lt_nt {ah : Sp → Sp → Bool} (h : Tot ah) {a b c : Sp} (h1 : ah a b = true) (h2 : ah c b = false) : ah c a = false := by
  cases e : ah c a
  · rfl
  · rw [h.tr c a b e h1] at h2
    cases h2
theorem tot_ahB : Tot ahB where
  irr a := by rw [ahB_false]; omega
  tr a b c h1 h2 := by rw [ahB_iff] at *; omega
  tot a b h1 h2 := by
    rw [ahB_false] at *
    obtain ⟨d, i, s⟩ := a
    obtain ⟨d', i', s'⟩ := b
    simp only at h1 h2
    have e1 : d = d' := by omega
    have e2 : i = i' := by omega
    have e3 : s = s' := by omega
    rw [e1, e2, e3]
theorem tot_flip {ah : Sp → Sp → Bool} (h : Tot ah) : Tot fun a b => ah b a where
  irr a := h.irr a
  tr a b c h1 h2 := h.tr c b a h2 h1
  tot a b h1 h2 := h.tot a b h2 h1
def sg (L : List Sp) (i : Nat) : Sp := L.getD i ⟨0, 0, 0⟩
theorem sg_at {L : List Sp} {i : Nat} (hi : i < L.length) : L[i]? = some (sg L i) := by
  unfold sg
  rw [List.getD_eq_getElem?_getD, List.getElem?_eq_getElem hi]
  rfl
theorem sg_mem {L : List Sp} {i : Nat} (hi : i < L.length) : sg L i ∈ L := List.mem_of_getElem? (sg_at hi)
theorem sg_set {L : List Sp} {k j : Nat} {u : Sp} (hk : k < L.length) : sg (L.set k u) j = if k = j then u else sg L j := by
  simp only [sg, List.getD_eq_getElem?_getD, List.getElem?_set]
  split
  · rename_i h; subst h; simp
  · rfl
/-- Two spots change places. -/
def swp (L : List Sp) (i p : Nat) : List Sp := (L.set i (sg L p)).set p (sg L i)
theorem swp_len (L : List Sp) (i p : Nat) : (swp L i p).length = L.length := by simp [swp]
theorem sg_swp {L : List Sp} {i p : Nat} (hi : i < L.length) (hp : p < L.length) (j : Nat) : sg (swp L i p) j = if p = j then sg L i else if i = j then sg L p else sg L j := by
  unfold swp
  rw [sg_set (by simpa using hp), sg_set hi]
theorem swp_perm {L : List Sp} {i p : Nat} (hi : i < L.length) (hp : p < L.length) : (swp L i p).Perm L := by
  have e1 : sg L i = L[i] := by unfold sg; rw [List.getD_eq_getElem?_getD, List.getElem?_eq_getElem hi]; rfl
  have e2 : sg L p = L[p] := by unfold sg; rw [List.getD_eq_getElem?_getD, List.getElem?_eq_getElem hp]; rfl
  unfold swp
  rw [e1, e2]
  exact List.set_set_perm hi hp
/-- None is ahead of the one above it. -/
def Hp (ah : Sp → Sp → Bool) (L : List Sp) : Prop := ∀ j, 0 < j → j < L.length → ah (sg L j) (sg L ((j - 1) / 2)) = false
theorem Hp.first {ah : Sp → Sp → Bool} (ho : Tot ah) {L : List Sp} (h : Hp ah L) : ∀ j, j < L.length → ah (sg L j) (sg L 0) = false := by
  intro j
  induction j using Nat.strongRecOn with
  | _ j ih =>
    intro hj
    rcases Nat.eq_zero_or_pos j with rfl | h0
    · exact ho.irr _
    · exact ho.nt (ih ((j - 1) / 2) (by omega) (by omega)) (h j h0 hj)
theorem Hp.head {ah : Sp → Sp → Bool} (ho : Tot ah) {L : List Sp} (h : Hp ah L) {x : Sp} (hx : x ∈ L) : ah x (sg L 0) = false := by
  obtain ⟨j, hj⟩ := List.mem_iff_getElem?.1 hx
  have hl := (List.getElem?_eq_some_iff.1 hj).1
  have := h.first ho j hl
  rw [sg_at hl] at hj
  injection hj with hj
  rwa [hj] at this
/-- On the way up. -/
structure UpI (ah : Sp → Sp → Bool) (L0 L : List Sp) (i : Nat) : Prop where
  pm : L.Perm L0
  lt : i < L.length
  hp : ∀ j, 0 < j → j < L.length → j ≠ i → ah (sg L j) (sg L ((j - 1) / 2)) = false
  ch : ∀ j, 0 < j → j < L.length → (j - 1) / 2 = i → 0 < i → ah (sg L j) (sg L ((i - 1) / 2)) = false
theorem UpI.step {ah : Sp → Sp → Bool} (ho : Tot ah) {L0 L : List Sp} {i p : Nat} (h : UpI ah L0 L i) (h0 : 0 < i) (hp : (i - 1) / 2 = p) (ha : ah (sg L i) (sg L p) = true) : UpI ah L0 (swp L i p) p := by
  have hi := h.lt
  have hpi : p < i := by omega
  have hpl : p < L.length := by omega
  refine ⟨(swp_perm hi hpl).trans h.pm, by rw [swp_len]; exact hpl, fun j hj0 hj hne => ?_, fun j hj0 hj hq hp0 => ?_⟩
  · rw [swp_len] at hj
    rw [sg_swp hi hpl, sg_swp hi hpl, if_neg (Ne.symm hne)]
    by_cases hji : i = j
    · subst hji
      rw [if_pos rfl, hp, if_pos rfl]
      exact ho.asym ha
    · rw [if_neg hji]
      have hj1 := h.hp j hj0 hj (fun e => hji e.symm)
      by_cases hqp : p = (j - 1) / 2
      · rw [if_pos hqp]
        rw [← hqp] at hj1
        exact ho.lt_nt ha hj1
      · rw [if_neg hqp]
        by_cases hqi : i = (j - 1) / 2
        · rw [if_pos hqi]
          have := h.ch j hj0 hj hqi.symm h0
          rwa [hp] at this
        · rw [if_neg hqi]
          exact hj1
  · rw [swp_len] at hj
    have hr : (p - 1) / 2 < p := by omega
    rw [sg_swp hi hpl, sg_swp hi hpl, if_neg (show ¬ p = (p - 1) / 2 by omega), if_neg (show ¬ i = (p - 1) / 2 by omega), if_neg (show ¬ p = j by omega)]
    have h1 := h.hp p hp0 hpl (by omega)
    by_cases hji : i = j
    · rw [if_pos hji]; exact h1
    · rw [if_neg hji]
      have h2 := h.hp j hj0 hj (fun e => hji e.symm)
      rw [hq] at h2
      exact ho.nt h1 h2
theorem UpI.stop {ah : Sp → Sp → Bool} {L0 L : List Sp} {i : Nat} (h : UpI ah L0 L i) (hs : i = 0 ∨ ah (sg L i) (sg L ((i - 1) / 2)) = false) : Hp ah L := by
  intro j h0 hj
  by_cases hji : j = i
  · subst hji
    rcases hs with rfl | hs
    · omega
    · exact hs
  · exact h.hp j h0 hj hji
theorem UpI.start {ah : Sp → Sp → Bool} {L : List Sp} {x : Sp} (h : Hp ah L) : UpI ah (L ++ [x]) (L ++ [x]) L.length := by
  have hs : ∀ j, j < L.length → sg (L ++ [x]) j = sg L j := fun j hj => by
    simp only [sg, List.getD_eq_getElem?_getD]
    rw [List.getElem?_append_left hj]
  refine ⟨.refl _, by simp, fun j h0 hj hne => ?_, fun j h0 hj hq hl => ?_⟩
  · have hj' : j < L.length := by simp at hj; omega
    rw [hs j hj', hs _ (by omega)]
    exact h j h0 hj'
  · simp at hj
    omega
/-- On the way down. -/
structure DnI (ah : Sp → Sp → Bool) (L0 L : List Sp) (i : Nat) : Prop where
  pm : L.Perm L0
  hp : ∀ j, 0 < j → j < L.length → (j - 1) / 2 ≠ i → ah (sg L j) (sg L ((j - 1) / 2)) = false
  ch : ∀ j, 0 < j → j < L.length → (j - 1) / 2 = i → 0 < i → ah (sg L j) (sg L ((i - 1) / 2)) = false
theorem DnI.step {ah : Sp → Sp → Bool} (ho : Tot ah) {L0 L : List Sp} {i k : Nat} (h : DnI ah L0 L i) (hk0 : 0 < k) (hk : k < L.length) (hki : (k - 1) / 2 = i) (hb : ∀ j, 0 < j → j < L.length → (j - 1) / 2 = i → ah (sg L j) (sg L k) = false) (ha : ah (sg L k) (sg L i) = true) : DnI ah L0 (swp L i k) k := by
  have hi : i < L.length := by omega
  refine ⟨(swp_perm hi hk).trans h.pm, fun j hj0 hj hne => ?_, fun j hj0 hj hq _ => ?_⟩
  · rw [swp_len] at hj
    rw [sg_swp hi hk, sg_swp hi hk, if_neg (show ¬ k = (j - 1) / 2 from fun e => hne e.symm)]
    by_cases hqi : i = (j - 1) / 2
    · rw [if_pos hqi]
      by_cases hjk : k = j
      · rw [if_pos hjk]
        exact ho.asym ha
      · rw [if_neg hjk, if_neg (show ¬ i = j by omega)]
        exact hb j hj0 hj hqi.symm
    · rw [if_neg hqi]
      have h1 := h.hp j hj0 hj (fun e => hqi e.symm)
      rw [if_neg (show ¬ k = j from fun e => by subst e; exact hqi hki.symm)]
      by_cases hij : i = j
      · rw [if_pos hij]
        subst hij
        exact h.ch k hk0 hk hki hj0
      · rw [if_neg hij]
        exact h1
  · rw [swp_len] at hj
    rw [sg_swp hi hk, sg_swp hi hk, hki, if_neg (show ¬ k = i by omega), if_pos rfl, if_neg (show ¬ k = j by omega), if_neg (show ¬ i = j by omega)]
    have := h.hp j hj0 hj (by omega)
    rwa [hq] at this
theorem DnI.stop {ah : Sp → Sp → Bool} (ho : Tot ah) {L0 L : List Sp} {i k : Nat} (h : DnI ah L0 L i) (hk : L.length ≤ 2 * i + 1 ∨ ((∀ j, 0 < j → j < L.length → (j - 1) / 2 = i → ah (sg L j) (sg L k) = false) ∧ ah (sg L k) (sg L i) = false)) : Hp ah L := by
  intro j h0 hj
  by_cases hq : (j - 1) / 2 = i
  · rcases hk with hk | ⟨h1, h2⟩
    · omega
    · rw [hq]
      exact ho.nt h2 (h1 j h0 hj hq)
  · exact h.hp j h0 hj hq
/-- The last one in the first's place. -/
theorem DnI.start {ah : Sp → Sp → Bool} {L : List Sp} (h : Hp ah L) (h0 : 0 < L.length) : DnI ah ((L.set 0 (sg L (L.length - 1))).take (L.length - 1)) ((L.set 0 (sg L (L.length - 1))).take (L.length - 1)) 0 := by
  refine ⟨.refl _, fun j hj0 hj hq => ?_, fun j _ _ _ h => absurd h (by omega)⟩
  have hj' : j < L.length - 1 := by
    rw [List.length_take, List.length_set] at hj
    omega
  have hs : ∀ i, 0 < i → i < L.length - 1 → sg ((L.set 0 (sg L (L.length - 1))).take (L.length - 1)) i = sg L i := fun i hi0 hi => by
    simp only [sg, List.getD_eq_getElem?_getD]
    rw [List.getElem?_take, if_pos hi, List.getElem?_set, if_neg (by omega)]
  rw [hs j hj0 hj', hs _ (by omega) (by omega)]
  exact h j hj0 (by omega)
/-- What is left is all but the first. -/
theorem pop_perm {L : List Sp} (h0 : 0 < L.length) : (sg L 0 :: (L.set 0 (sg L (L.length - 1))).take (L.length - 1)).Perm L := by
  cases L with
  | nil => simp at h0
  | cons a l =>
    rcases List.eq_nil_or_concat l with rfl | ⟨l', b, rfl⟩
    · exact .refl _
    · have e1 : sg (a :: (l'.concat b)) ((a :: l'.concat b).length - 1) = b := by
        simp [sg, List.getD_eq_getElem?_getD]
      rw [e1]
      have e2 : ((a :: l'.concat b).set 0 b).take ((a :: l'.concat b).length - 1) = b :: l' := by
        simp
      rw [e2]
      show (a :: b :: l').Perm (a :: l'.concat b)
      rw [List.concat_eq_append]
      exact List.Perm.cons a (List.perm_append_comm (l₁ := [b]) (l₂ := l'))
theorem sorted_eq : ∀ {l1 l2 : List Sp}, l1.Perm l2 → l1.Pairwise (fun a b => ahB b a = false) → l2.Pairwise (fun a b => ahB b a = false) → l1 = l2
  | [], l2, h, _, _ => (List.Perm.nil_eq h)
  | a :: l1, [], h, _, _ => absurd h.length_eq (by simp)
  | a :: l1, b :: l2, h, h1, h2 => by
    have hab : a = b := by
      have h1' := List.pairwise_cons.1 h1
      have h2' := List.pairwise_cons.1 h2
      have ma : a ∈ b :: l2 := h.mem_iff.1 (List.mem_cons_self ..)
      have mb : b ∈ a :: l1 := h.mem_iff.2 (List.mem_cons_self ..)
      rcases List.mem_cons.1 ma with e | ma
      · exact e
      · rcases List.mem_cons.1 mb with e | mb
        · exact e.symm
        · exact tot_ahB.tot a b (h2'.1 a ma) (h1'.1 b mb)
    subst hab
    rw [sorted_eq (List.Perm.cons_inv h) (List.pairwise_cons.1 h1).2 (List.pairwise_cons.1 h2).2]
theorem sortSp_perm (l : List Sp) : (sortSp l).Perm l := List.mergeSort_perm l _
theorem sortSp_eq {l1 l2 : List Sp} (h : l1.Perm l2) : sortSp l1 = sortSp l2 := sorted_eq ((sortSp_perm l1).trans (h.trans (sortSp_perm l2).symm)) (sortSp_pair l1) (sortSp_pair l2)
/-- The best of what was offered. -/
def BI (m : Nat) (S L : List Sp) : Prop := ∃ R : List Sp, (L ++ R).Perm S ∧ L.length = min m S.length ∧ ∀ a ∈ L, ∀ b ∈ R, ahB b a = false
theorem BI.start (m : Nat) : BI m [] [] := ⟨[], .refl _, by simp, fun _ h => by simp at h⟩
theorem BI.len {m : Nat} {S L : List Sp} (h : BI m S L) : L.length = min m S.length := by obtain ⟨_, _, e, _⟩ := h; exact e
theorem BI.push {m : Nat} {S L L' : List Sp} {x : Sp} (h : BI m S L) (hl : L.length < m) (hp : L'.Perm (L ++ [x])) : BI m (S ++ [x]) L' := by
  obtain ⟨R, h1, h2, h3⟩ := h
  have hR : R = [] := by
    have := h1.length_eq
    rw [List.length_append] at this
    exact List.eq_nil_of_length_eq_zero (by omega)
  subst hR
  rw [List.append_nil] at h1
  refine ⟨[], ?_, ?_, fun _ _ _ h => by simp at h⟩
  · rw [List.append_nil]
    exact hp.trans (List.Perm.append_right _ h1)
  · rw [hp.length_eq, List.length_append, List.length_append, h2]
    simp only [List.length_cons, List.length_nil]
    omega
theorem BI.skip {m : Nat} {S L : List Sp} {x : Sp} (h : BI m S L) (hl : m ≤ L.length) (hx : ∀ a ∈ L, ahB x a = false) : BI m (S ++ [x]) L := by
  obtain ⟨R, h1, h2, h3⟩ := h
  refine ⟨R ++ [x], ?_, ?_, fun a ha b hb => ?_⟩
  · rw [← List.append_assoc]
    exact List.Perm.append_right _ h1
  · rw [List.length_append]
    simp only [List.length_cons, List.length_nil]
    omega
  · rcases List.mem_append.1 hb with hb | hb
    · exact h3 a ha b hb
    · obtain rfl : b = x := by simpa using hb
      exact hx a ha
theorem BI.swap {m : Nat} {S L K L' : List Sp} {x y : Sp} (h : BI m S L) (hl : m ≤ L.length) (hy : ∀ a ∈ L, ahB y a = false) (hx : ahB x y = true) (hk : (y :: K).Perm L) (hp : L'.Perm (K ++ [x])) : BI m (S ++ [x]) L' := by
  obtain ⟨R, h1, h2, h3⟩ := h
  have hyL : y ∈ L := hk.mem_iff.1 (List.mem_cons_self ..)
  refine ⟨y :: R, ?_, ?_, fun a ha b hb => ?_⟩
  · have e1 : (L' ++ y :: R).Perm ((K ++ [x]) ++ (y :: R)) := List.Perm.append_right _ hp
    have e2 : ((K ++ [x]) ++ (y :: R)).Perm ((y :: K) ++ R ++ [x]) := by
      have a1 : ((K ++ [x]) ++ (y :: R)).Perm ((y :: R) ++ (K ++ [x])) := List.perm_append_comm
      have a2 : ((y :: R) ++ (K ++ [x])) = y :: (R ++ K) ++ [x] := by simp
      have a3 : (y :: (R ++ K) ++ [x]).Perm (y :: (K ++ R) ++ [x]) := List.Perm.append_right _ (List.Perm.cons _ List.perm_append_comm)
      rw [a2] at a1
      exact a1.trans a3
    exact e1.trans (e2.trans (List.Perm.append_right _ ((List.Perm.append_right _ hk).trans h1)))
  · have e1 := hp.length_eq
    have e2 := hk.length_eq
    rw [List.length_append] at e1 ⊢
    simp only [List.length_cons, List.length_nil] at e1 e2 ⊢
    omega
  · have ha' := hp.mem_iff.1 ha
    rcases List.mem_append.1 ha' with ha' | ha'
    · have haL : a ∈ L := hk.mem_iff.1 (List.mem_cons_of_mem _ ha')
      rcases List.mem_cons.1 hb with rfl | hb
      · exact hy a haL
      · exact h3 a haL b hb
    · obtain rfl : a = x := by simpa using ha'
      rcases List.mem_cons.1 hb with rfl | hb
      · exact tot_ahB.asym hx
      · exact tot_ahB.lt_nt hx (h3 y hyL b hb)
theorem take_left' {l1 l2 : List Sp} {m : Nat} (h : l1.length = min m (l1.length + l2.length)) : (l1 ++ l2).take m = l1 := by
  by_cases hm : m ≤ l1.length
  · rw [List.take_append_of_le_length hm, List.take_of_length_le (by omega)]
  · have : l2 = [] := List.eq_nil_of_length_eq_zero (by omega)
    subst this
    rw [List.append_nil, List.take_of_length_le (by omega)]
theorem BI.sort {m : Nat} {S L : List Sp} (h : BI m S L) : sortSp L = (sortSp S).take m := by
  obtain ⟨R, h1, h2, h3⟩ := h
  have e : sortSp S = sortSp L ++ sortSp R := by
    refine sorted_eq ((sortSp_perm S).trans (h1.symm.trans ((List.Perm.append_right _ (sortSp_perm L).symm).trans (List.Perm.append_left _ (sortSp_perm R).symm)))) (sortSp_pair S) ?_
    refine List.pairwise_append.2 ⟨sortSp_pair L, sortSp_pair R, fun a ha b hb => h3 a (sortSp_mem.1 ha) b (sortSp_mem.1 hb)⟩
  have hl := h1.length_eq
  rw [List.length_append] at hl
  rw [e, take_left' (by rw [sortSp_len, sortSp_len, h2, ← hl, h2]; omega)]
theorem BI.perm {m : Nat} {S S' L : List Sp} (h : BI m S L) (hp : S.Perm S') : BI m S' L := by
  obtain ⟨R, h1, h2, h3⟩ := h
  exact ⟨R, h1.trans hp, by rw [h2, hp.length_eq], h3⟩
/-- The best of the best of two. -/
theorem BI.both {m : Nat} {S1 S2 L1 L2 L1' L2' L : List Sp} (h1 : BI m S1 L1) (h2 : BI m S2 L2) (p1 : L1'.Perm L1) (p2 : L2'.Perm L2) (h : BI m (L1' ++ L2') L) : BI m (S1 ++ S2) L := by
  obtain ⟨R1, a1, a2, a3⟩ := h1
  obtain ⟨R2, b1, b2, b3⟩ := h2
  obtain ⟨R, c1, c2, c3⟩ := h
  have n1 := a1.length_eq
  have n2 := b1.length_eq
  have q1 := p1.length_eq
  have q2 := p2.length_eq
  rw [List.length_append] at n1 n2 c2
  have key : ∀ {S' L' L'' R' : List Sp}, L'.length = min m S'.length → (L' ++ R').Perm S' → L''.Perm L' → (∀ a ∈ L', ∀ b ∈ R', ahB b a = false) → (∀ P : Sp → Bool, L''.countP P ≤ (L1' ++ L2').countP P) → ∀ a ∈ L, ∀ b ∈ R', ahB b a = false := by
    intro S' L' L'' R' hl hp hp' hle hc a ha b hb
    cases e : ahB b a
    · rfl
    · have hn := hp.length_eq
      rw [List.length_append] at hn
      have hb0 := List.length_pos_of_mem hb
      have hlm : L'.length = m := by omega
      have hall : ∀ y ∈ L'', ahB y a = true := by
        intro y hy
        cases e2 : ahB y a
        · have := tot_ahB.nt (hle y (hp'.mem_iff.1 hy) b hb) (c := a) (by
            cases e3 : ahB a b
            · rfl
            · rw [tot_ahB.asym e] at e3; cases e3)
          have h5 := tot_ahB.tot y a e2 this
          subst h5
          rw [hle y (hp'.mem_iff.1 hy) b hb] at e
          cases e
        · rfl
      have k1 : L''.countP (fun y => ahB y a) = m := by
        rw [List.countP_eq_length.2 hall, hp'.length_eq, hlm]
      have k2 := hc (fun y => ahB y a)
      have k3 := c1.countP_eq (fun y => ahB y a)
      rw [List.countP_append] at k3
      have k4 : R.countP (fun y => ahB y a) = 0 := List.countP_eq_zero.2 fun y hy => by rw [c3 a ha y hy]; simp
      have k5 : L.countP (fun y => ahB y a) < L.length := by
        rcases Nat.lt_or_ge (L.countP (fun y => ahB y a)) L.length with q | q
        · exact q
        · have := List.countP_eq_length.1 (Nat.le_antisymm List.countP_le_length q) a ha
          rw [tot_ahB.irr] at this
          cases this
      have k6 : L.length ≤ m := by omega
      omega
  refine ⟨R ++ (R1 ++ R2), ?_, ?_, fun a ha b hb => ?_⟩
  · have e1 : (L ++ (R ++ (R1 ++ R2))).Perm ((L1' ++ L2') ++ (R1 ++ R2)) := by
      rw [← List.append_assoc]
      exact List.Perm.append_right _ c1
    have e2 : ((L1' ++ L2') ++ (R1 ++ R2)).Perm ((L1 ++ L2) ++ (R1 ++ R2)) := List.Perm.append_right _ ((List.Perm.append_right _ p1).trans (List.Perm.append_left _ p2))
    have e3 : ((L1 ++ L2) ++ (R1 ++ R2)).Perm ((L1 ++ R1) ++ (L2 ++ R2)) := by
      rw [List.append_assoc, List.append_assoc]
      refine List.Perm.append_left _ ?_
      rw [← List.append_assoc, ← List.append_assoc]
      exact List.Perm.append_right _ List.perm_append_comm
    exact e1.trans (e2.trans (e3.trans ((List.Perm.append_right _ a1).trans (List.Perm.append_left _ b1))))
  · rw [List.length_append]
    omega
  · rcases List.mem_append.1 hb with hb | hb
    · exact c3 a ha b hb
    · rcases List.mem_append.1 hb with hb | hb
      · exact key a2 a1 p1 a3 (fun P => by rw [List.countP_append]; exact Nat.le_add_right _ _) a ha b hb
      · exact key b2 b1 p2 b3 (fun P => by rw [List.countP_append]; exact Nat.le_add_left _ _) a ha b hb
/-- What is taken out of a queue. -/
def QI (S told L : List Sp) : Prop := (told ++ L).Perm S ∧ told.Pairwise (fun a b => ahB b a = false) ∧ ∀ a ∈ told, ∀ b ∈ L, ahB b a = false
theorem QI.start {S L : List Sp} (h : L.Perm S) : QI S [] L := ⟨h, List.Pairwise.nil, fun _ h => by simp at h⟩
theorem QI.pop {S told L L' : List Sp} {x : Sp} (h : QI S told L) (hx : ∀ b ∈ L, ahB b x = false) (hp : (x :: L').Perm L) : QI S (told ++ [x]) L' := by
  obtain ⟨h1, h2, h3⟩ := h
  refine ⟨?_, ?_, fun a ha b hb => ?_⟩
  · rw [List.append_assoc]
    exact (List.Perm.append_left _ hp).trans h1
  · refine List.pairwise_append.2 ⟨h2, List.pairwise_singleton _ _, fun a ha b hb => ?_⟩
    obtain rfl : b = x := by simpa using hb
    exact h3 a ha b (hp.mem_iff.1 (List.mem_cons_self ..))
  · have hbL : b ∈ L := hp.mem_iff.1 (List.mem_cons_of_mem _ hb)
    rcases List.mem_append.1 ha with ha | ha
    · exact h3 a ha b hbL
    · obtain rfl : a = x := by simpa using ha
      exact hx b hbL
theorem QI.sort {S told L : List Sp} (h : QI S told L) : told = (sortSp S).take told.length := by
  obtain ⟨h1, h2, h3⟩ := h
  have e : sortSp S = told ++ sortSp L := by
    refine sorted_eq ((sortSp_perm S).trans (h1.symm.trans (List.Perm.append_left _ (sortSp_perm L).symm))) (sortSp_pair S) ?_
    exact List.pairwise_append.2 ⟨h2, sortSp_pair L, fun a ha b hb => h3 a ha b (sortSp_mem.1 hb)⟩
  rw [e, List.take_left']
  rfl
end Go.Proofs.Ytpcbfoddlpgdjaa
