/- TopApart: plain law. -/
import Derived.Test.YtpcbfoddlpgdjaaApD
import Derived.Test.YtpcbfoddlpgdjaaHpLP
namespace Go.Proofs.Ytpcbfoddlpgdjaa
/-- A candidate that is told by its spot. -/
def ofS (vs : Nat → IS) (x : Sp) : Cd := ⟨x, vs x.s.toNat⟩
theorem srt_pair {f : Nat → Cd} {n : Nat} (h : Srt (leC ltC) f 0 n) : (asL f n).Pairwise (leC ltC) := by
  unfold asL
  rw [List.pairwise_map]
  refine List.Pairwise.imp_of_mem ?_ List.pairwise_lt_range
  intro i j hi hj hij
  exact h i j (Nat.zero_le _) hij (List.mem_range.1 hj)
theorem pair_sp {l : List Cd} (h : l.Pairwise (leC ltC)) : (l.map Cd.sp).Pairwise fun a b => ahB b a = false := by
  rw [List.pairwise_map]
  exact h
/-- Two lists in order, of the same candidates, each told by its spot: one. -/
theorem cd_eq {vs : Nat → IS} {l1 l2 : List Cd} (hp : l1.Perm l2) (h1 : l1.Pairwise (leC ltC)) (h2 : l2.Pairwise (leC ltC)) (hv : ∀ x ∈ l2, x = ofS vs x.sp) : l1 = l2 := by
  have e : l1.map Cd.sp = l2.map Cd.sp := sorted_eq (hp.map _) (pair_sp h1) (pair_sp h2)
  have e2 : ∀ l : List Cd, (∀ x ∈ l, x = ofS vs x.sp) → (l.map Cd.sp).map (ofS vs) = l := fun l hl => by
    rw [List.map_map]
    refine (List.map_congr_left fun x hx => ?_).trans (List.map_id l)
    exact (hl x hx).symm
  rw [← e2 l1 (fun x hx => hv x (hp.mem_iff.1 hx)), ← e2 l2 hv, e]
/-- None is too near to one ahead of it. -/
def FarL (l : List Cd) : Prop := l.Pairwise fun d c => nearB c d = false
theorem part_far : ∀ (l : List Cd) (p : List Cd × List Cd), FarL p.1 → FarL (l.foldl partS p).1
  | [], _, h => h
  | c :: l, p, h => by
    rw [List.foldl_cons]
    refine part_far l _ ?_
    unfold partS
    split
    · exact h
    · rename_i hn
      refine List.pairwise_append.2 ⟨h, List.pairwise_singleton _ _, fun d hd c' hc => ?_⟩
      rw [List.mem_singleton] at hc
      subst hc
      have := List.any_eq_false.1 (by simpa using hn : p.1.any (nearB c') = false) d hd
      simpa using this
theorem part_sub : ∀ (l : List Cd) (p : List Cd × List Cd), ∃ t : List Cd, t.Sublist l ∧ (l.foldl partS p).1 = p.1 ++ t
  | [], p => ⟨[], List.Sublist.refl _, by simp⟩
  | c :: l, p => by
    rw [List.foldl_cons]
    obtain ⟨t, ht, e⟩ := part_sub l (partS p c)
    by_cases hn : p.1.any (nearB c) = true
    · have ep : partS p c = (p.1, p.2 ++ [c]) := by unfold partS; rw [if_pos hn]
      rw [ep] at e ⊢
      exact ⟨t, ht.cons c, e⟩
    · have ep : partS p c = (p.1 ++ [c], p.2) := by unfold partS; rw [if_neg hn]
      rw [ep] at e ⊢
      exact ⟨c :: t, ht.cons_cons c, by rw [e]; simp⟩
theorem part_again : ∀ (l p : List Cd) (o : List Cd), FarL (p ++ l) → l.foldl partS (p, o) = (p ++ l, o)
  | [], p, o, _ => by simp
  | c :: l, p, o, h => by
    have hn : p.any (nearB c) = false := by
      rw [List.any_eq_false]
      intro d hd
      have := (List.pairwise_append.1 h).2.2 d hd c List.mem_cons_self
      simp [this]
    rw [List.foldl_cons]
    have e : partS (p, o) c = (p ++ [c], o) := by unfold partS; rw [if_neg (by rw [hn]; decide)]
    rw [e, part_again l (p ++ [c]) o (by simpa using h)]
    simp
theorem part_first {l : List Cd} {c : Cd} : ∃ t, ((c :: l).foldl partS ([], [])).1 = c :: t := by
  rw [List.foldl_cons]
  have e : partS ([], []) c = ([c], []) := by unfold partS; simp
  rw [e]
  obtain ⟨t, _, h⟩ := part_sub l ([c], [])
  exact ⟨t, by rw [h]; rfl⟩
theorem part_all : ∀ (l : List Cd) (p : List Cd × List Cd), ∀ x, x ∈ (l.foldl partS p).1 ∨ x ∈ (l.foldl partS p).2 → x ∈ p.1 ∨ x ∈ p.2 ∨ x ∈ l
  | [], p, x, h => h.elim .inl (fun q => .inr (.inl q))
  | c :: l, p, x, h => by
    rw [List.foldl_cons] at h
    rcases part_all l _ x h with q | q | q
    · unfold partS at q
      split at q
      · exact .inl q
      · rcases List.mem_append.1 q with q | q
        · exact .inl q
        · exact .inr (.inr (by rw [List.mem_singleton] at q; subst q; exact List.mem_cons_self))
    · unfold partS at q
      split at q
      · rcases List.mem_append.1 q with q | q
        · exact .inr (.inl q)
        · exact .inr (.inr (by rw [List.mem_singleton] at q; subst q; exact List.mem_cons_self))
      · exact .inr (.inl q)
    · exact .inr (.inr (List.mem_cons_of_mem _ q))
/-- Those told first: none is ahead of the first one. -/
theorem best_law {f : Nat → Cd} {n K : Nat} (h : Srt (leC ltC) f 0 n) {x : Sp} (hx : x ∈ beL f n K) : ahB x (sg (beL f n K) 0) = false := by
  unfold beL at hx ⊢
  obtain ⟨y, hy, rfl⟩ := List.mem_map.1 hx
  have hK : 0 < K := by
    rcases Nat.eq_zero_or_pos K with e | e
    · subst e; simp at hy
    · exact e
  have hyl : y ∈ asL f n := by
    rcases List.mem_append.1 (List.mem_of_mem_take hy) with q | q
    · rcases part_all (asL f n) ([], []) y (.inl q) with q | q | q
      · simp at q
      · simp at q
      · exact q
    · rcases part_all (asL f n) ([], []) y (.inr q) with q | q | q
      · simp at q
      · simp at q
      · exact q
  obtain ⟨i, hi, rfl⟩ := List.mem_map.1 hyl
  have hi := List.mem_range.1 hi
  obtain ⟨m, rfl⟩ : ∃ m, n = m + 1 := ⟨n - 1, by omega⟩
  have e0 : asL f (m + 1) = f 0 :: ((List.range m).map fun k => f (k + 1)) := by
    unfold asL
    rw [List.range_succ_eq_map, List.map_cons, List.map_map]; rfl
  obtain ⟨t, ht⟩ := part_first (l := (List.range m).map fun k => f (k + 1)) (c := f 0)
  have e1 : (partK f (m + 1)).1 = f 0 :: t := by unfold partK; rw [e0, ht]
  have e2 : sg ((((partK f (m + 1)).1 ++ (partK f (m + 1)).2).take K).map Cd.sp) 0 = (f 0).sp := by
    rw [e1]
    obtain ⟨k, rfl⟩ : ∃ k, K = k + 1 := ⟨K - 1, by omega⟩
    simp [sg]
  rw [e2]
  by_cases e : i = 0
  · subst e; exact tot_ahB.irr _
  · exact h 0 i (Nat.zero_le _) (by omega) hi
theorem best_len {f : Nat → Cd} {n K : Nat} (h : K ≤ n) : (beL f n K).length = K := by
  have := part_len (asL f n) ([], [])
  rw [asL_len] at this
  have e : (partK f n).1.length + (partK f n).2.length = n := by unfold partK; simpa using this
  unfold beL
  simp
  omega
/-- Chosen once more, all are. -/
theorem again_law {vs : Nat → IS} {f f2 : Nat → Cd} {n k : Nat} (h : Srt (leC ltC) f 0 n) (hv : ∀ i, i < n → f i = ofS vs (f i).sp) {g : Nat → Cd} (hg : asL g k = (partK f n).1) (hp : (asL f2 k).Perm (asL g k)) (h2 : Srt (leC ltC) f2 0 k) : apL f2 k = apL f n := by
  have hin : ∀ x ∈ (partK f n).1, x = ofS vs x.sp := fun x hx => by
    obtain ⟨i, hi, rfl⟩ := part_mem f n x hx
    exact hv i hi
  obtain ⟨t, ht, e⟩ := part_sub (asL f n) ([], [])
  have hs : (partK f n).1.Pairwise (leC ltC) := by
    have : (partK f n).1 = t := by unfold partK; rw [e]; rfl
    rw [this]
    exact (srt_pair h).sublist ht
  have e2 : asL f2 k = (partK f n).1 := cd_eq (vs := vs) (hp.trans (by rw [hg])) (srt_pair h2) hs hin
  have e3 : partK f2 k = ((partK f n).1, []) := by
    show (asL f2 k).foldl partS ([], []) = _
    rw [e2]
    have := part_again (partK f n).1 [] [] (by rw [List.nil_append]; exact part_far (asL f n) ([], []) List.Pairwise.nil)
    rw [List.nil_append] at this
    exact this
  unfold apL
  rw [e3]
/-- The vectors of items. -/
def vsI (its : List ItX) (i : Nat) : IS := (its.map ItX.vec).getD i ⟨none, 0, 0, []⟩
theorem cdF_spI {q : IS} {its : List ItX} {n i : Nat} (hn : its.length = n) (hi : i < n) : cdF (spI q its) its i = ofS (vsI its) (cdF (spI q its) its i).sp ∧ (cdF (spI q its) its i).sp.s = (i : Int) := by
  obtain ⟨d, hd⟩ : ∃ d, its[i]? = some d := ⟨_, List.getElem?_eq_getElem (by omega)⟩
  have e : sg (spI q its) i = ⟨dX q d, d.id, ((i : Nat) : Int)⟩ := by
    unfold sg
    rw [List.getD_eq_getElem?_getD, spI_at hd]; rfl
  unfold cdF ofS vsI
  simp only [e, Int.toNat_natCast]
  exact ⟨trivial, trivial⟩
/-- The items of those that are apart. -/
def agI (its : List ItX) (l : List Sp) : List ItX := l.map fun x => its.getD x.s.toNat ⟨0, ⟨none, 0, 0, []⟩, 0⟩
theorem agI_len (its : List ItX) (l : List Sp) : (agI its l).length = l.length := by simp [agI]
theorem agI_at {its : List ItX} {l : List Sp} {j : Nat} {x : Sp} (h : l[j]? = some x) : (agI its l)[j]? = some (its.getD x.s.toNat ⟨0, ⟨none, 0, 0, []⟩, 0⟩) := by
  rw [agI, List.getElem?_map, h]; rfl
theorem vs_get (its : List ItX) (i : Nat) : (its.getD i ⟨0, ⟨none, 0, 0, []⟩, 0⟩).vec = vsI its i := by
  unfold vsI
  rw [List.getD_eq_getElem?_getD, List.getD_eq_getElem?_getD, List.getElem?_map]
  cases its[i]? <;> rfl
/-- Their candidates are those that were apart. -/
theorem ag_cd {its : List ItX} {f : Nat → Cd} {n : Nat} (hv : ∀ i, i < n → f i = ofS (vsI its) (f i).sp) : asL (cdF (apL f n) (agI its (apL f n))) (partK f n).1.length = (partK f n).1 := by
  refine List.ext_getElem? fun j => ?_
  by_cases hj : j < (partK f n).1.length
  · obtain ⟨x, hx⟩ : ∃ x, (partK f n).1[j]? = some x := ⟨_, List.getElem?_eq_getElem hj⟩
    have hsp : (apL f n)[j]? = some x.sp := by unfold apL; rw [List.getElem?_map, hx]; rfl
    obtain ⟨i, hi, e⟩ := part_mem f n x (List.mem_of_getElem? hx)
    have hx2 := hv i hi
    rw [e] at hx2
    rw [asL_get hj, hx, cdF_at (agI_at hsp)]
    have e1 : sg (apL f n) j = x.sp := by unfold sg; rw [List.getD_eq_getElem?_getD, hsp]; rfl
    rw [e1, vs_get, ← show ofS (vsI its) x.sp = ⟨x.sp, vsI its x.sp.s.toNat⟩ from rfl, ← hx2]
  · rw [List.getElem?_eq_none (by rw [asL_len]; omega), List.getElem?_eq_none (by omega)]
/-- What is told of a spot of a candidate: its place. -/
theorem ap_slot {q : IS} {its : List ItX} {f : Nat → Cd} {n : Nat} (hn : its.length = n) (hp : (asL f n).Perm (asL (cdF (spI q its) its) n)) : (∀ i, i < n → f i = ofS (vsI its) (f i).sp) ∧ ∀ x ∈ apL f n, ∃ m : Nat, m < n ∧ x.s = (m : Int) := by
  have key : ∀ i, i < n → f i = ofS (vsI its) (f i).sp ∧ ∃ m : Nat, m < n ∧ (f i).sp.s = (m : Int) := fun i hi => by
    have hm := hp.mem_iff.1 (List.mem_map.2 ⟨i, List.mem_range.2 hi, rfl⟩)
    obtain ⟨m, hm, e⟩ := List.mem_map.1 hm
    have hm := List.mem_range.1 hm
    obtain ⟨k1, k2⟩ := cdF_spI (q := q) hn hm
    rw [e] at k1 k2
    exact ⟨k1, m, hm, k2⟩
  refine ⟨fun i hi => (key i hi).1, fun x hx => ?_⟩
  obtain ⟨y, hy, rfl⟩ := List.mem_map.1 hx
  obtain ⟨i, hi, rfl⟩ := part_mem f n y hy
  exact (key i hi).2
end Go.Proofs.Ytpcbfoddlpgdjaa
