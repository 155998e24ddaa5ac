/- Right planes: no node is a neighbour of its own; the nearest of all. -/
import Derived.Test.YtckclflbcgblaaaPmD
import Derived.Test.YtckclflbcgblaaaRkW
import Derived.Test.YtckclflbcgblaaaRkJ
namespace Go.Proofs.Ytckclflbcgblaaa
open Go.RowKit
theorem mem_liveIG {ns : List ND} {y : Int} : y ∈ liveI ns ↔ thB ns y = true := by
  unfold liveI lvI
  rw [List.mem_map, thB_nat_iff]
  constructor
  · rintro ⟨k, hk, rfl⟩
    exact ⟨k, rfl, (List.mem_filter.1 hk).2⟩
  · rintro ⟨k, rfl, hk⟩
    exact ⟨k, List.mem_filter.2 ⟨List.mem_range.2 (thN_iff.1 hk).2.1, hk⟩, rfl⟩
theorem nodup_liveIG (ns : List ND) : (liveI ns).Nodup := by
  unfold liveI lvI
  refine List.Pairwise.map _ (fun a b (h : a ≠ b) => ?_) (List.nodup_range.filter _)
  omega
theorem len_subG : ∀ (a b : List Int), a.Nodup → (∀ x ∈ a, x ∈ b) → a.length ≤ b.length
  | [], b, _, _ => Nat.zero_le _
  | x :: a, b, hn, hs => by
    have hx := hs x List.mem_cons_self
    have h1 := List.nodup_cons.1 hn
    have h2 := len_subG a (b.erase x) h1.2 fun y hy => (List.mem_erase_of_ne (by rintro rfl; exact h1.1 hy)).2 (hs y (List.mem_cons_of_mem _ hy))
    rw [List.length_erase_of_mem hx] at h2
    have : 0 < b.length := List.length_pos_of_mem hx
    rw [List.length_cons]; omega
theorem near_thereG {ns : List ND} {s level y : Int} (h : y ∈ nearI ns s level) : thB ns y = true := by
  unfold nearI at h
  split at h
  · exact ((kept_mem ns _ y _ (Nat.le_refl _)).1 h).2
  · cases h
theorem nodup_withG {l : List Int} (h : l.Nodup) (v : Int) : (withI l v).Nodup := by
  unfold withI
  split
  · exact h
  · rename_i q
    rw [hasI_iff] at q
    refine List.nodup_append.2 ⟨h, by simp, fun a ha b hb e => ?_⟩
    simp only [List.mem_singleton] at hb
    subst hb; subst e
    exact q ha
theorem nodup_keptG (ns : List ND) (l : List Int) : ∀ k, k ≤ l.length → (keptI (nearQ ns l) l k).Nodup
  | 0, _ => List.nodup_nil
  | k + 1, h => by
    rw [kept_with ns l (show k < l.length by omega)]
    split
    · exact nodup_withG (nodup_keptG ns l k (by omega)) _
    · exact nodup_keptG ns l k (by omega)
theorem nodup_nearG (ns : List ND) (s level : Int) : (nearI ns s level).Nodup := by
  unfold nearI
  split
  · exact nodup_keptG ns _ _ (Nat.le_refl _)
  · exact List.nodup_nil
theorem near_memG {ns : List ND} {s level y : Int} : y ∈ nearI ns s level ↔ (0 ≤ s ∧ s < ns.length) ∧ y ∈ nearSrc ns s.toNat level ∧ thB ns y = true := by
  unfold nearI
  split
  · rename_i h
    rw [kept_mem ns _ y _ (Nat.le_refl _), List.take_length]
    exact ⟨fun q => ⟨h, q⟩, fun q => q.2⟩
  · rename_i h
    exact ⟨fun q => (by cases q), fun q => absurd q.1 h⟩
theorem th_rangeG {ns : List ND} {x : Int} (h : thB ns x = true) : 0 ≤ x ∧ x < ns.length := by
  obtain ⟨k, rfl, hk⟩ := thB_nat_iff.1 h
  have := (thN_iff.1 hk).2.1
  omega
theorem sub_eqG {a b : List Int} (ha : a.Nodup) (hs : ∀ x ∈ a, x ∈ b) (hl : b.length ≤ a.length) : ∀ x ∈ b, x ∈ a := fun x hx => Classical.byContradiction fun q => by
  have := len_subG (x :: a) b (List.nodup_cons.2 ⟨q, ha⟩) fun y hy => by
    rcases List.mem_cons.1 hy with rfl | hy
    · exact hx
    · exact hs y hy
  rw [List.length_cons] at this; omega
theorem ringGo_allG {ns : List ND} {P : Int → Prop} (hs : ∀ y, P y → thB ns y = true → thB ns (nAt ns y.toNat).next = true → P (nAt ns y.toNat).next) : ∀ (f : Nat) (out : List Int) (at_ : Int), (∀ y ∈ out, P y) → (thB ns at_ = true → P at_) → ∀ y ∈ ringGo ns f out at_, P y
  | 0, _, _, h1, _ => h1
  | f + 1, out, at_, h1, h2 => by
    unfold ringGo
    split
    · rename_i hc
      rw [Bool.and_eq_true] at hc
      refine ringGo_allG hs f _ _ (fun y hy => ?_) fun ht => hs at_ (h2 hc.1) hc.1 ht
      rcases List.mem_append.1 hy with q | q
      · exact h1 y q
      · rw [List.mem_singleton] at q; subst q; exact h2 hc.1
    · exact h1
theorem ringGo_okG {ns : List ND} : ∀ (f : Nat) (out : List Int) (at_ : Int), out.Nodup → (ringGo ns f out at_).Nodup
  | 0, _, _, h => h
  | f + 1, out, at_, h => by
    unfold ringGo
    split
    · rename_i hc
      rw [Bool.and_eq_true, Bool.not_eq_true'] at hc
      refine ringGo_okG f _ _ (List.nodup_append.2 ⟨h, by simp, fun a ha b hb e => ?_⟩)
      rw [List.mem_singleton] at hb
      subst hb; subst e
      rw [hasI_iff.2 ha] at hc; cases hc.2
    · exact h
theorem place_iffG {ns : List ND} {x : Int} (h : placeB ns x = true) : x = 0 ∨ thB ns x = true := by
  unfold placeB at h
  rw [Bool.or_eq_true] at h
  rcases h with h | h
  · exact .inl (by simpa using h)
  · exact .inr h
theorem ring_self {ns : List ND} {links en tp : Int} (h : chkB ns links en tp = true) {k : Nat} (hk : thN ns k = true) : (nAt ns k).next ≠ k ∧ (nAt ns k).prev ≠ k := by
  unfold chkB at h
  simp only [Bool.and_eq_true, decide_eq_true_eq] at h
  obtain ⟨⟨⟨⟨h1, h2⟩, h3⟩, h4⟩, h5⟩ := h
  unfold ringB at h3
  rw [Bool.and_eq_true, List.all_eq_true] at h3
  obtain ⟨h31, h32⟩ := h3
  have hlen : (ringI ns).length = (liveI ns).length := by rw [beq_iff_eq] at h32; omega
  have place : ∀ k : Nat, k < ns.length → (k = 0 ∨ thN ns k = true) → ((nAt ns k).next = 0 ∨ thB ns (nAt ns k).next = true) ∧ ((nAt ns k).prev = 0 ∨ thB ns (nAt ns k).prev = true) ∧ (nAt ns (nAt ns k).next.toNat).prev = k := fun k hk hp => by
    have q := h31 k (List.mem_range.2 hk)
    unfold rOk at q
    rw [if_neg (by
      rcases hp with rfl | hp
      · simp
      · rw [hp]; simp)] at q
    rw [Bool.and_eq_true, Bool.and_eq_true] at q
    exact ⟨place_iffG q.1.1, place_iffG q.1.2, by simpa using q.2⟩
  have hkl := thN_iff.1 hk
  have hne : ns.length ≠ 0 := by omega
  have e : ringI ns = ringGo ns (ns.length + 1) [] (nAt ns 0).next := by unfold ringI; rw [if_neg hne]
  have hmem : ((k : Nat) : Int) ∈ ringI ns := by
    refine sub_eqG (b := liveI ns) ?_ (fun y hy => mem_liveIG.2 ?_) (by rw [hlen]; exact Nat.le_refl _) _ (mem_liveIG.2 (by rw [thB_nat]; exact hk))
    · rw [e]; exact ringGo_okG _ _ _ List.nodup_nil
    · rw [e] at hy
      exact ringGo_allG (P := fun y => thB ns y = true) (fun y _ _ q => q) _ _ _ (fun y q => by cases q) (fun q => q) y hy
  have nx : (nAt ns k).next ≠ k := by
    intro hx
    have hself := (place k hkl.2.1 (.inr hk)).2.2
    rw [hx, Int.toNat_natCast] at hself
    -- nobody else leads to k
    have hP : ∀ y : Nat, y < ns.length → (y = 0 ∨ thN ns y = true) → (nAt ns y).next = k → y = k := fun y hy hp hn => by
      have := (place y hy hp).2.2
      rw [hn, Int.toNat_natCast, hself] at this
      omega
    have hall := ringGo_allG (ns := ns) (P := fun y => thB ns y = true ∧ y ≠ (k : Int)) (fun y hy ht hn => ⟨hn, fun e2 => by
      obtain ⟨i, rfl, hi⟩ := thB_nat_iff.1 ht
      rw [Int.toNat_natCast] at e2
      have := hP i (thN_iff.1 hi).2.1 (.inr hi) e2
      subst this
      exact hy.2 rfl⟩) (ns.length + 1) [] (nAt ns 0).next (fun y q => by cases q) (fun q => ⟨q, fun e2 => by
      have := hP 0 (by omega) (.inl rfl) e2
      omega⟩)
    rw [← e] at hall
    exact (hall _ hmem).2 rfl
  refine ⟨nx, fun hx => ?_⟩
  -- prev = k: then next of k's prev is k
  have hprev := (place k hkl.2.1 (.inr hk)).2.1
  rw [hx] at hprev
  -- the node before k in the ring
  have hback : ∃ y : Nat, y < ns.length ∧ (y = 0 ∨ thN ns y = true) ∧ (nAt ns y).next = k := by
    refine Classical.byContradiction fun hno => ?_
    have hall := ringGo_allG (ns := ns) (P := fun y => thB ns y = true ∧ y ≠ (k : Int)) (fun y hy ht hn => ⟨hn, fun e2 => by
      obtain ⟨i, rfl, hi⟩ := thB_nat_iff.1 ht
      rw [Int.toNat_natCast] at e2
      exact hno ⟨i, (thN_iff.1 hi).2.1, .inr hi, e2⟩⟩) (ns.length + 1) [] (nAt ns 0).next (fun y q => by cases q) (fun q => ⟨q, fun e2 => hno ⟨0, by omega, .inl rfl, e2⟩⟩)
    rw [← e] at hall
    exact (hall _ hmem).2 rfl
  obtain ⟨y, hy, hp, hn⟩ := hback
  have := (place y hy hp).2.2
  rw [hn, Int.toNat_natCast, hx] at this
  have hyk : y = k := by omega
  subst hyk
  exact nx hn
theorem near_self {ns : List ND} {links en tp : Int} (h : chkB ns links en tp = true) {k : Nat} (hk : thN ns k = true) : ((k : Nat) : Int) ∉ nearI ns k 0 := by
  intro hm
  obtain ⟨_, hs, _⟩ := near_memG.1 hm
  have hr := ring_self h hk
  rw [Int.toNat_natCast] at hs
  unfold nearSrc at hs
  rcases List.mem_append.1 hs with hs | hs
  · split at hs
    · rename_i hc
      unfold chkB at h
      simp only [Bool.and_eq_true, decide_eq_true_eq] at h
      obtain ⟨⟨_, h4⟩, _⟩ := h
      rw [List.all_eq_true] at h4
      have hn := h4 (k : Int) (mem_liveIG.2 (by rw [thB_nat]; exact hk))
      rw [Int.toNat_natCast] at hn
      unfold nodeB listsB at hn
      rw [Bool.and_eq_true, Bool.and_eq_true, List.all_eq_true] at hn
      by_cases hl : 0 < (nAt ns k).ln
      · have q := hn.1.2 0 (List.mem_range.2 hl)
        unfold listB rightB at q
        simp only [Bool.and_eq_true, List.all_eq_true] at q
        have q2 := q.1.1.1 _ hs
        unfold okE at q2
        simp at q2
      · have hsh := hn.1.1
        unfold shapeB at hsh
        simp only [Bool.and_eq_true, Bool.not_eq_true', decide_eq_false_iff_not] at hsh
        have : ((nAt ns k).ln : Int) = (nAt ns k).level + 1 := by simpa using hsh.2
        omega
    · cases hs
  · rw [if_pos rfl] at hs
    rcases List.mem_cons.1 hs with e | hs
    · exact hr.1 e.symm
    · rcases List.mem_cons.1 hs with e | hs
      · exact hr.2 e.symm
      · cases hs
/-- All neighbours: the others. -/
theorem near_full {ns : List ND} {links en tp : Int} (h : chkB ns links en tp = true) {k : Nat} (hk : thN ns k = true) (hl : (nearI ns k 0).length + 1 = (liveI ns).length) : ∀ y, thB ns y = true → y = (k : Int) ∨ y ∈ nearI ns k 0 := by
  intro y hy
  have := sub_eqG (a := ((k : Nat) : Int) :: nearI ns k 0) (b := liveI ns) (List.nodup_cons.2 ⟨near_self h hk, nodup_nearG ns _ _⟩) (fun x hx => by
    rcases List.mem_cons.1 hx with rfl | hx
    · exact mem_liveIG.2 (by rw [thB_nat]; exact hk)
    · exact mem_liveIG.2 (near_thereG hx)) (by rw [List.length_cons]; omega) y (mem_liveIG.2 hy)
  exact List.mem_cons.1 this
/-- The spots that a step looks at. -/
def stepL (q : IS) (ns : List ND) (k : Nat) : List Sp := spN q ns k :: (nearI ns k 0).map fun y => spN q ns y.toNat
theorem sort_min {l : List Sp} {x : Sp} (hx : (sortSp l)[0]? = some x) : x ∈ l ∧ ∀ y ∈ l, ahB y x = false := by
  refine ⟨sortSp_mem.1 (List.mem_of_getElem? hx), fun y hy => ?_⟩
  obtain ⟨j, hj⟩ := List.mem_iff_getElem?.1 (sortSp_mem.2 hy)
  exact sortSp_at (Nat.zero_le j) hx hj
theorem stepL_th {q : IS} {ns : List ND} {k : Nat} (hk : thN ns k = true) {x : Sp} (hx : x ∈ stepL q ns k) : ∃ i : Nat, thN ns i = true ∧ x = spN q ns i := by
  rcases List.mem_cons.1 hx with rfl | hx
  · exact ⟨k, hk, rfl⟩
  · obtain ⟨y, hy, rfl⟩ := List.mem_map.1 hx
    obtain ⟨i, rfl, hi⟩ := thB_nat_iff.1 (near_thereG hy)
    exact ⟨i, hi, by rw [Int.toNat_natCast]⟩
/-- Where a step goes. -/
def StepR (q : IS) (ns : List ND) (k j : Nat) : Prop := thN ns j = true ∧ spN q ns j ∈ stepL q ns k ∧ ∀ y ∈ stepL q ns k, ahB y (spN q ns j) = false
theorem step_of {q : IS} {ns : List ND} {k : Nat} (hk : thN ns k = true) {x : Sp} (hx : (sortSp (stepL q ns k))[0]? = some x) : ∃ j : Nat, StepR q ns k j ∧ x = spN q ns j := by
  obtain ⟨h1, h2⟩ := sort_min hx
  obtain ⟨j, hj, rfl⟩ := stepL_th hk h1
  exact ⟨j, ⟨hj, h1, h2⟩, rfl⟩
theorem spN_s {q : IS} {ns : List ND} {i j : Nat} (h : spN q ns i = spN q ns j) : i = j := by
  have : (spN q ns i).s = (spN q ns j).s := by rw [h]
  exact Int.ofNat_inj.1 this
theorem ah_tot {a b : Sp} (h1 : ahB a b = false) (h2 : ahB b a = false) : a = b := by
  rw [ahB_false] at *
  obtain ⟨d, i, s⟩ := a
  obtain ⟨d', i', s'⟩ := b
  simp only at h1 h2
  have e1 : d = d' := by omega
  have e2 : i = i' := by omega
  have e3 : s = s' := by omega
  rw [e1, e2, e3]
/-- A step that goes elsewhere goes ahead. -/
theorem StepR.ahead {q : IS} {ns : List ND} {k j : Nat} (h : StepR q ns k j) (hne : j ≠ k) : ahB (spN q ns j) (spN q ns k) = true := by
  cases e : ahB (spN q ns j) (spN q ns k)
  · have := ah_tot (h.2.2 (spN q ns k) (List.mem_cons_self ..)) e
    exact absurd (spN_s this).symm hne
  · rfl
/-- How many are ahead. -/
def aheadN (q : IS) (ns : List ND) (k : Nat) : Nat := ((liveI ns).filter fun y => ahB (spN q ns y.toNat) (spN q ns k)).length
theorem ahB_trans {a b c : Sp} (h1 : ahB a b = true) (h2 : ahB b c = true) : ahB a c = true := by rw [ahB_iff] at *; omega
theorem aheadN_lt {q : IS} {ns : List ND} {k j : Nat} (hj : thN ns j = true) (h : ahB (spN q ns j) (spN q ns k) = true) : aheadN q ns j < aheadN q ns k := by
  unfold aheadN
  have hjm : ((j : Nat) : Int) ∈ liveI ns := mem_liveIG.2 (by rw [thB_nat]; exact hj)
  have h1 : ((j : Nat) : Int) ∉ (liveI ns).filter fun y => ahB (spN q ns y.toNat) (spN q ns j) := fun hm => by
    have := (List.mem_filter.1 hm).2
    rw [Int.toNat_natCast] at this
    rw [ahB_iff] at this
    omega
  have := len_subG (((j : Nat) : Int) :: (liveI ns).filter fun y => ahB (spN q ns y.toNat) (spN q ns j)) ((liveI ns).filter fun y => ahB (spN q ns y.toNat) (spN q ns k)) (List.nodup_cons.2 ⟨h1, (nodup_liveIG ns).filter _⟩) (fun x hx => by
    rcases List.mem_cons.1 hx with rfl | hx
    · exact List.mem_filter.2 ⟨hjm, by rw [Int.toNat_natCast]; exact h⟩
    · obtain ⟨a, b⟩ := List.mem_filter.1 hx
      exact List.mem_filter.2 ⟨a, ahB_trans b h⟩)
  rw [List.length_cons] at this
  omega
end Go.Proofs.Ytckclflbcgblaaa
