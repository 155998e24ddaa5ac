/- The best of some, and spots in order: plain laws. -/
import Derived.Test.YtpcbfoddlpgdjaaHpL
namespace Go.Proofs.Ytpcbfoddlpgdjaa
theorem sorted_eq : ∀ {l1 l2 : List Sp}, l1.Perm l2 → l1.Pairwise (fun a b => ahB b a = false) → l2.Pairwise (fun a b => ahB b a = false) → l1 = l2
  | [], l2, h, _, _ => (List.Perm.nil_eq h)
  | a :: l1, [], h, _, _ => absurd h.length_eq (by simp)
  | a :: l1, b :: l2, h, h1, h2 => by
    have hab : a = b := by
      have h1' := List.pairwise_cons.1 h1
      have h2' := List.pairwise_cons.1 h2
      have ma : a ∈ b :: l2 := h.mem_iff.1 (List.mem_cons_self ..)
      have mb : b ∈ a :: l1 := h.mem_iff.2 (List.mem_cons_self ..)
      rcases List.mem_cons.1 ma with e | ma
      · exact e
      · rcases List.mem_cons.1 mb with e | mb
        · exact e.symm
        · exact tot_ahB.tot a b (h2'.1 a ma) (h1'.1 b mb)
    subst hab
    rw [sorted_eq (List.Perm.cons_inv h) (List.pairwise_cons.1 h1).2 (List.pairwise_cons.1 h2).2]
theorem sortSp_perm (l : List Sp) : (sortSp l).Perm l := List.mergeSort_perm l _
theorem sortSp_eq {l1 l2 : List Sp} (h : l1.Perm l2) : sortSp l1 = sortSp l2 := sorted_eq ((sortSp_perm l1).trans (h.trans (sortSp_perm l2).symm)) (sortSp_pair l1) (sortSp_pair l2)
/-- The best of what was offered. -/
def BI (m : Nat) (S L : List Sp) : Prop := ∃ R : List Sp, (L ++ R).Perm S ∧ L.length = min m S.length ∧ ∀ a ∈ L, ∀ b ∈ R, ahB b a = false
theorem BI.start (m : Nat) : BI m [] [] := ⟨[], .refl _, by simp, fun _ h => by simp at h⟩
theorem BI.len {m : Nat} {S L : List Sp} (h : BI m S L) : L.length = min m S.length := by obtain ⟨_, _, e, _⟩ := h; exact e
theorem BI.push {m : Nat} {S L L' : List Sp} {x : Sp} (h : BI m S L) (hl : L.length < m) (hp : L'.Perm (L ++ [x])) : BI m (S ++ [x]) L' := by
  obtain ⟨R, h1, h2, h3⟩ := h
  have hR : R = [] := by
    have := h1.length_eq
    rw [List.length_append] at this
    exact List.eq_nil_of_length_eq_zero (by omega)
  subst hR
  rw [List.append_nil] at h1
  refine ⟨[], ?_, ?_, fun _ _ _ h => by simp at h⟩
  · rw [List.append_nil]
    exact hp.trans (List.Perm.append_right _ h1)
  · rw [hp.length_eq, List.length_append, List.length_append, h2]
    simp only [List.length_cons, List.length_nil]
    omega
theorem BI.skip {m : Nat} {S L : List Sp} {x : Sp} (h : BI m S L) (hl : m ≤ L.length) (hx : ∀ a ∈ L, ahB x a = false) : BI m (S ++ [x]) L := by
  obtain ⟨R, h1, h2, h3⟩ := h
  refine ⟨R ++ [x], ?_, ?_, fun a ha b hb => ?_⟩
  · rw [← List.append_assoc]
    exact List.Perm.append_right _ h1
  · rw [List.length_append]
    simp only [List.length_cons, List.length_nil]
    omega
  · rcases List.mem_append.1 hb with hb | hb
    · exact h3 a ha b hb
    · obtain rfl : b = x := by simpa using hb
      exact hx a ha
theorem BI.swap {m : Nat} {S L K L' : List Sp} {x y : Sp} (h : BI m S L) (hl : m ≤ L.length) (hy : ∀ a ∈ L, ahB y a = false) (hx : ahB x y = true) (hk : (y :: K).Perm L) (hp : L'.Perm (K ++ [x])) : BI m (S ++ [x]) L' := by
  obtain ⟨R, h1, h2, h3⟩ := h
  have hyL : y ∈ L := hk.mem_iff.1 (List.mem_cons_self ..)
  refine ⟨y :: R, ?_, ?_, fun a ha b hb => ?_⟩
  · have e1 : (L' ++ y :: R).Perm ((K ++ [x]) ++ (y :: R)) := List.Perm.append_right _ hp
    have e2 : ((K ++ [x]) ++ (y :: R)).Perm ((y :: K) ++ R ++ [x]) := by
      have a1 : ((K ++ [x]) ++ (y :: R)).Perm ((y :: R) ++ (K ++ [x])) := List.perm_append_comm
      have a2 : ((y :: R) ++ (K ++ [x])) = y :: (R ++ K) ++ [x] := by simp
      have a3 : (y :: (R ++ K) ++ [x]).Perm (y :: (K ++ R) ++ [x]) := List.Perm.append_right _ (List.Perm.cons _ List.perm_append_comm)
      rw [a2] at a1
      exact a1.trans a3
    exact e1.trans (e2.trans (List.Perm.append_right _ ((List.Perm.append_right _ hk).trans h1)))
  · have e1 := hp.length_eq
    have e2 := hk.length_eq
    rw [List.length_append] at e1 ⊢
    simp only [List.length_cons, List.length_nil] at e1 e2 ⊢
    omega
  · have ha' := hp.mem_iff.1 ha
    rcases List.mem_append.1 ha' with ha' | ha'
    · have haL : a ∈ L := hk.mem_iff.1 (List.mem_cons_of_mem _ ha')
      rcases List.mem_cons.1 hb with rfl | hb
      · exact hy a haL
      · exact h3 a haL b hb
    · obtain rfl : a = x := by simpa using ha'
      rcases List.mem_cons.1 hb with rfl | hb
      · exact tot_ahB.asym hx
      · exact tot_ahB.lt_nt hx (h3 y hyL b hb)
theorem take_left' {l1 l2 : List Sp} {m : Nat} (h : l1.length = min m (l1.length + l2.length)) : (l1 ++ l2).take m = l1 := by
  by_cases hm : m ≤ l1.length
  · rw [List.take_append_of_le_length hm, List.take_of_length_le (by omega)]
  · have : l2 = [] := List.eq_nil_of_length_eq_zero (by omega)
    subst this
    rw [List.append_nil, List.take_of_length_le (by omega)]
theorem BI.sort {m : Nat} {S L : List Sp} (h : BI m S L) : sortSp L = (sortSp S).take m := by
  obtain ⟨R, h1, h2, h3⟩ := h
  have e : sortSp S = sortSp L ++ sortSp R := by
    refine sorted_eq ((sortSp_perm S).trans (h1.symm.trans ((List.Perm.append_right _ (sortSp_perm L).symm).trans (List.Perm.append_left _ (sortSp_perm R).symm)))) (sortSp_pair S) ?_
    refine List.pairwise_append.2 ⟨sortSp_pair L, sortSp_pair R, fun a ha b hb => h3 a (sortSp_mem.1 ha) b (sortSp_mem.1 hb)⟩
  have hl := h1.length_eq
  rw [List.length_append] at hl
  rw [e, take_left' (by rw [sortSp_len, sortSp_len, h2, ← hl, h2]; omega)]
theorem BI.perm {m : Nat} {S S' L : List Sp} (h : BI m S L) (hp : S.Perm S') : BI m S' L := by
  obtain ⟨R, h1, h2, h3⟩ := h
  exact ⟨R, h1.trans hp, by rw [h2, hp.length_eq], h3⟩
/-- The best of the best of two. -/
theorem BI.both {m : Nat} {S1 S2 L1 L2 L1' L2' L : List Sp} (h1 : BI m S1 L1) (h2 : BI m S2 L2) (p1 : L1'.Perm L1) (p2 : L2'.Perm L2) (h : BI m (L1' ++ L2') L) : BI m (S1 ++ S2) L := by
  obtain ⟨R1, a1, a2, a3⟩ := h1
  obtain ⟨R2, b1, b2, b3⟩ := h2
  obtain ⟨R, c1, c2, c3⟩ := h
  have n1 := a1.length_eq
  have n2 := b1.length_eq
  have q1 := p1.length_eq
  have q2 := p2.length_eq
  rw [List.length_append] at n1 n2 c2
  have key : ∀ {S' L' L'' R' : List Sp}, L'.length = min m S'.length → (L' ++ R').Perm S' → L''.Perm L' → (∀ a ∈ L', ∀ b ∈ R', ahB b a = false) → (∀ P : Sp → Bool, L''.countP P ≤ (L1' ++ L2').countP P) → ∀ a ∈ L, ∀ b ∈ R', ahB b a = false := by
    intro S' L' L'' R' hl hp hp' hle hc a ha b hb
    cases e : ahB b a
    · rfl
    · have hn := hp.length_eq
      rw [List.length_append] at hn
      have hb0 := List.length_pos_of_mem hb
      have hlm : L'.length = m := by omega
      have hall : ∀ y ∈ L'', ahB y a = true := by
        intro y hy
        cases e2 : ahB y a
        · have := tot_ahB.nt (hle y (hp'.mem_iff.1 hy) b hb) (c := a) (by
            cases e3 : ahB a b
            · rfl
            · rw [tot_ahB.asym e] at e3; cases e3)
          have h5 := tot_ahB.tot y a e2 this
          subst h5
          rw [hle y (hp'.mem_iff.1 hy) b hb] at e
          cases e
        · rfl
      have k1 : L''.countP (fun y => ahB y a) = m := by
        rw [List.countP_eq_length.2 hall, hp'.length_eq, hlm]
      have k2 := hc (fun y => ahB y a)
      have k3 := c1.countP_eq (fun y => ahB y a)
      rw [List.countP_append] at k3
      have k4 : R.countP (fun y => ahB y a) = 0 := List.countP_eq_zero.2 fun y hy => by rw [c3 a ha y hy]; simp
      have k5 : L.countP (fun y => ahB y a) < L.length := by
        rcases Nat.lt_or_ge (L.countP (fun y => ahB y a)) L.length with q | q
        · exact q
        · have := List.countP_eq_length.1 (Nat.le_antisymm List.countP_le_length q) a ha
          rw [tot_ahB.irr] at this
          cases this
      have k6 : L.length ≤ m := by omega
      omega
  refine ⟨R ++ (R1 ++ R2), ?_, ?_, fun a ha b hb => ?_⟩
  · have e1 : (L ++ (R ++ (R1 ++ R2))).Perm ((L1' ++ L2') ++ (R1 ++ R2)) := by
      rw [← List.append_assoc]
      exact List.Perm.append_right _ c1
    have e2 : ((L1' ++ L2') ++ (R1 ++ R2)).Perm ((L1 ++ L2) ++ (R1 ++ R2)) := List.Perm.append_right _ ((List.Perm.append_right _ p1).trans (List.Perm.append_left _ p2))
    have e3 : ((L1 ++ L2) ++ (R1 ++ R2)).Perm ((L1 ++ R1) ++ (L2 ++ R2)) := by
      rw [List.append_assoc, List.append_assoc]
      refine List.Perm.append_left _ ?_
      rw [← List.append_assoc, ← List.append_assoc]
      exact List.Perm.append_right _ List.perm_append_comm
    exact e1.trans (e2.trans (e3.trans ((List.Perm.append_right _ a1).trans (List.Perm.append_left _ b1))))
  · rw [List.length_append]
    omega
  · rcases List.mem_append.1 hb with hb | hb
    · exact c3 a ha b hb
    · rcases List.mem_append.1 hb with hb | hb
      · exact key a2 a1 p1 a3 (fun P => by rw [List.countP_append]; exact Nat.le_add_right _ _) a ha b hb
      · exact key b2 b1 p2 b3 (fun P => by rw [List.countP_append]; exact Nat.le_add_left _ _) a ha b hb
/-- What is taken out of a queue. -/
def QI (S told L : List Sp) : Prop := (told ++ L).Perm S ∧ told.Pairwise (fun a b => ahB b a = false) ∧ ∀ a ∈ told, ∀ b ∈ L, ahB b a = false
theorem QI.start {S L : List Sp} (h : L.Perm S) : QI S [] L := ⟨h, List.Pairwise.nil, fun _ h => by simp at h⟩
theorem QI.pop {S told L L' : List Sp} {x : Sp} (h : QI S told L) (hx : ∀ b ∈ L, ahB b x = false) (hp : (x :: L').Perm L) : QI S (told ++ [x]) L' := by
  obtain ⟨h1, h2, h3⟩ := h
  refine ⟨?_, ?_, fun a ha b hb => ?_⟩
  · rw [List.append_assoc]
    exact (List.Perm.append_left _ hp).trans h1
  · refine List.pairwise_append.2 ⟨h2, List.pairwise_singleton _ _, fun a ha b hb => ?_⟩
    obtain rfl : b = x := by simpa using hb
    exact h3 a ha b (hp.mem_iff.1 (List.mem_cons_self ..))
  · have hbL : b ∈ L := hp.mem_iff.1 (List.mem_cons_of_mem _ hb)
    rcases List.mem_append.1 ha with ha | ha
    · exact h3 a ha b hbL
    · obtain rfl : a = x := by simpa using ha
      exact hx b hbL
theorem QI.sort {S told L : List Sp} (h : QI S told L) : told = (sortSp S).take told.length := by
  obtain ⟨h1, h2, h3⟩ := h
  have e : sortSp S = told ++ sortSp L := by
    refine sorted_eq ((sortSp_perm S).trans (h1.symm.trans (List.Perm.append_left _ (sortSp_perm L).symm))) (sortSp_pair S) ?_
    exact List.pairwise_append.2 ⟨h2, sortSp_pair L, fun a ha b hb => h3 a ha b (sortSp_mem.1 hb)⟩
  rw [e, List.take_left']
  rfl
end Go.Proofs.Ytpcbfoddlpgdjaa
