/- Reach: the plain law of right planes. -/
import Derived.Test.YtkhnnjeinpojkaaReMb
namespace Go.Proofs.Ytkhnnjeinpojkaa
open Go.RowKit Go.Maps Go.ChangeMaps Go.MapKept
theorem near_mem {ns : List ND} {s level y : Int} : y ∈ nearI ns s level ↔ (0 ≤ s ∧ s < ns.length) ∧ y ∈ nearSrc ns s.toNat level ∧ thB ns y = true := by
  unfold nearI
  split
  · rename_i h
    rw [kept_mem ns _ y _ (Nat.le_refl _), List.take_length]
    exact ⟨fun q => ⟨h, q⟩, fun q => q.2⟩
  · rename_i h
    exact ⟨fun q => (by cases q), fun q => absurd q.1 h⟩
theorem th_range {ns : List ND} {x : Int} (h : thB ns x = true) : 0 ≤ x ∧ x < ns.length := by
  obtain ⟨k, rfl, hk⟩ := thB_nat_iff.1 h
  have := (thN_iff.1 hk).2.1
  omega
theorem sub_eq {a b : List Int} (ha : a.Nodup) (hs : ∀ x ∈ a, x ∈ b) (hl : b.length ≤ a.length) : ∀ x ∈ b, x ∈ a := fun x hx => Classical.byContradiction fun q => by
  have := len_sub (x :: a) b (List.nodup_cons.2 ⟨q, ha⟩) fun y hy => by
    rcases List.mem_cons.1 hy with rfl | hy
    · exact hx
    · exact hs y hy
  rw [List.length_cons] at this; omega
/-- What a right plane has. -/
structure Right (ns : List ND) : Prop where
  pos : 1 ≤ ns.length
  place : ∀ k : Nat, k < ns.length → (k = 0 ∨ thN ns k = true) → ((nAt ns k).next = 0 ∨ thB ns (nAt ns k).next = true) ∧ ((nAt ns k).prev = 0 ∨ thB ns (nAt ns k).prev = true) ∧ (nAt ns (nAt ns k).next.toNat).prev = k
  ring : (ringI ns).length = (liveI ns).length
  lev : ∀ k : Nat, thN ns k = true → 0 ≤ (nAt ns k).level ∧ ((nAt ns k).ln : Int) = (nAt ns k).level + 1
  list : ∀ k l : Nat, thN ns k = true → l < (nAt ns k).ln → ∀ y ∈ (lsAt (nAt ns k) l).xs, thB ns y = true ∧ l < (nAt ns y.toNat).ln ∧ (k : Int) ∈ (lsAt (nAt ns y.toNat) l).xs
theorem place_iff {ns : List ND} {x : Int} (h : placeB ns x = true) : x = 0 ∨ thB ns x = true := by
  unfold placeB at h
  rw [Bool.or_eq_true] at h
  rcases h with h | h
  · exact .inl (by simpa using h)
  · exact .inr h
theorem right_of {ns : List ND} {links en tp : Int} (h : chkB ns links en tp = true) : Right ns := by
  unfold chkB at h
  simp only [Bool.and_eq_true, decide_eq_true_eq] at h
  obtain ⟨⟨⟨⟨h1, h2⟩, h3⟩, h4⟩, h5⟩ := h
  unfold ringB at h3
  rw [Bool.and_eq_true, List.all_eq_true] at h3
  obtain ⟨h31, h32⟩ := h3
  rw [List.all_eq_true] at h4
  have hn : ∀ k : Nat, thN ns k = true → nodeB ns k links = true := fun k hk => by
    have := h4 (k : Int) (mem_liveI.2 (by rw [thB_nat]; exact hk))
    rwa [Int.toNat_natCast] at this
  refine ⟨h1, fun k hk hp => ?_, ?_, fun k hk => ?_, fun k l hk hl y hy => ?_⟩
  · have q := h31 k (List.mem_range.2 hk)
    unfold rOk at q
    rw [if_neg (by
      rcases hp with rfl | hp
      · simp
      · rw [hp]; simp)] at q
    rw [Bool.and_eq_true, Bool.and_eq_true] at q
    exact ⟨place_iff q.1.1, place_iff q.1.2, by simpa using q.2⟩
  · have q := h32
    rw [beq_iff_eq] at q
    omega
  · have q := hn k hk
    unfold nodeB shapeB at q
    simp only [Bool.and_eq_true, Bool.not_eq_true', decide_eq_false_iff_not] at q
    obtain ⟨⟨⟨⟨q1, q2⟩, q3⟩, _⟩, _⟩ := q
    refine ⟨by omega, ?_⟩
    simpa using q3
  · have q := hn k hk
    unfold nodeB listsB at q
    rw [Bool.and_eq_true, Bool.and_eq_true, List.all_eq_true] at q
    have q2 := q.1.2 l (List.mem_range.2 hl)
    unfold listB at q2
    rw [Bool.and_eq_true, List.all_eq_true] at q2
    have q3 := q2.2 y hy
    unfold backB at q3
    rw [Bool.and_eq_true, Bool.and_eq_true, decide_eq_true_eq, hasI_iff] at q3
    exact ⟨q3.1.1, q3.1.2, q3.2⟩
theorem Right.turn {ns : List ND} (h : Right ns) {x : Int} (hx : x = 0 ∨ thB ns x = true) : (nAt ns (nAt ns x.toNat).prev.toNat).next = x := by
  have hP : ∀ y : Int, (y = 0 ∨ thB ns y = true) → y.toNat < ns.length ∧ (y.toNat = 0 ∨ thN ns y.toNat = true) ∧ ((y.toNat : Nat) : Int) = y := fun y hy => by
    have h1 := h.pos
    rcases hy with rfl | hy
    · exact ⟨by show 0 < _; omega, .inl rfl, rfl⟩
    · obtain ⟨k, rfl, hk⟩ := thB_nat_iff.1 hy
      exact ⟨by rw [Int.toNat_natCast]; exact (thN_iff.1 hk).2.1, .inr (by rw [Int.toNat_natCast]; exact hk), by rw [Int.toNat_natCast]⟩
  have hmem : ∀ y : Int, y ∈ (0 : Int) :: liveI ns ↔ (y = 0 ∨ thB ns y = true) := fun y => by rw [List.mem_cons, mem_liveI]
  have hnx : ∀ y : Int, (y = 0 ∨ thB ns y = true) → ((nAt ns y.toNat).next = 0 ∨ thB ns (nAt ns y.toNat).next = true) ∧ (nAt ns (nAt ns y.toNat).next.toNat).prev = y := fun y hy => by
    obtain ⟨p1, p2, p3⟩ := hP y hy
    obtain ⟨q1, q2, q3⟩ := h.place _ p1 p2
    exact ⟨q1, by rw [q3, p3]⟩
  have hnd : ((0 : Int) :: liveI ns).Nodup := List.nodup_cons.2 ⟨fun q => by
    have := mem_liveI.1 q
    obtain ⟨k, e, hk⟩ := thB_nat_iff.1 this
    have := (thN_iff.1 hk).1
    omega, nodup_liveI ns⟩
  have hmap : (((0 : Int) :: liveI ns).map fun y => (nAt ns y.toNat).next).Nodup := by
    refine List.Pairwise.of_map (S := (· ≠ ·)) (fun z : Int => (nAt ns z.toNat).prev) (fun a b hab e => hab (by rw [e])) ?_
    rw [List.map_map]
    have e : ((0 : Int) :: liveI ns).map ((fun z : Int => (nAt ns z.toNat).prev) ∘ fun y => (nAt ns y.toNat).next) = (0 : Int) :: liveI ns := by
      refine (List.map_congr_left (g := id) fun y hy => ?_).trans (List.map_id _)
      exact (hnx y ((hmem y).1 hy)).2
    rw [e]; exact hnd
  have hsur := sub_eq hmap (b := (0 : Int) :: liveI ns) (fun z hz => by
    obtain ⟨y, hy, rfl⟩ := List.mem_map.1 hz
    exact (hmem _).2 (hnx y ((hmem y).1 hy)).1) (by rw [List.length_map]; exact Nat.le_refl _)
  obtain ⟨z, hz, hzx⟩ := List.mem_map.1 (hsur x ((hmem x).2 hx))
  have h1 := hnx z ((hmem z).1 hz)
  have hzx' : (nAt ns z.toNat).next = x := hzx
  rw [hzx'] at h1
  rw [h1.2, hzx']
theorem Right.sym {ns : List ND} (h : Right ns) (hln : ∀ k, k < ns.length → (nAt ns k).ls.length = (nAt ns k).ln) {x y level : Int} (hx : thB ns x = true) (hy : y ∈ nearI ns x level) : x ∈ nearI ns y level ∧ (level ≤ (nAt ns y.toNat).level) := by
  obtain ⟨q1, q2, q3⟩ := near_mem.1 hy
  obtain ⟨k, rfl, hk⟩ := thB_nat_iff.1 hx
  obtain ⟨m, rfl, hm⟩ := thB_nat_iff.1 q3
  rw [Int.toNat_natCast] at q2
  have hkl := (thN_iff.1 hk).2.1
  have hml := (thN_iff.1 hm).2.1
  have hm1 := (thN_iff.1 hm).1
  have hmr : (0 : Int) ≤ (m : Int) ∧ (m : Int) < ns.length := by omega
  unfold nearSrc at q2
  rcases List.mem_append.1 q2 with q | q
  · split at q
    · rename_i hc
      obtain ⟨l, rfl⟩ : ∃ l : Nat, level = l := ⟨level.toNat, by omega⟩
      rw [Int.toNat_natCast] at q
      have hl : l < (nAt ns k).ln := by have := hln k hkl; omega
      obtain ⟨_, p2, p3⟩ := h.list k l hk hl _ q
      rw [Int.toNat_natCast] at p2 p3
      have hlev := (h.lev m hm).2
      refine ⟨near_mem.2 ⟨hmr, ?_, hx⟩, by rw [Int.toNat_natCast]; omega⟩
      rw [Int.toNat_natCast]
      unfold nearSrc
      refine List.mem_append_left _ ?_
      rw [if_pos ⟨by omega, by omega, by have := hln m hml; omega⟩, Int.toNat_natCast]
      exact p3
    · cases q
  · split at q
    · rename_i hc
      subst hc
      refine ⟨near_mem.2 ⟨hmr, ?_, hx⟩, by rw [Int.toNat_natCast]; exact (h.lev m hm).1⟩
      rw [Int.toNat_natCast]
      unfold nearSrc
      refine List.mem_append_right _ ?_
      rw [if_pos rfl]
      simp only [List.mem_cons, List.not_mem_nil, or_false] at q ⊢
      rcases q with q | q
      · have := (h.place k hkl (.inr hk)).2.2
        rw [← q, Int.toNat_natCast] at this
        exact .inr this.symm
      · have := h.turn (x := (k : Int)) (.inr hx)
        rw [Int.toNat_natCast, ← q, Int.toNat_natCast] at this
        exact .inl this.symm
    · cases q
theorem bI_trans {ns : List ND} {level b : Int} {xs : List Int} {k : Nat} (hb : b ∈ bI ns level xs k) : ∀ (j : Nat) (c : Int), c ∈ bI ns level [b] j → c ∈ bI ns level xs (k + j)
  | 0, c, h => by
    have : c = b := by simpa [bI] using h
    subst this; exact hb
  | j + 1, c, h => by
    rcases mem_stepI.1 h with q | ⟨z, q1, q2⟩
    · exact mem_stepI.2 (.inl (bI_trans hb j c q))
    · exact mem_stepI.2 (.inr ⟨z, bI_trans hb j z q1, q2⟩)
theorem bI_there {ns : List ND} {level : Int} {xs : List Int} (hx : ∀ x ∈ xs, thB ns x = true) : ∀ (k : Nat), ∀ y ∈ bI ns level xs k, thB ns y = true
  | 0, y, h => hx y h
  | k + 1, y, h => by
    rcases mem_stepI.1 h with q | ⟨z, _, q2⟩
    · exact bI_there hx k y q
    · exact near_there q2
theorem Right.back {ns : List ND} (h : Right ns) (hln : ∀ k, k < ns.length → (nAt ns k).ls.length = (nAt ns k).ln) {level a : Int} (ha : thB ns a = true) : ∀ (k : Nat) (b : Int), b ∈ bI ns level [a] k → a ∈ bI ns level [b] k
  | 0, b, hb => by
    have : b = a := by simpa [bI] using hb
    subst this; exact hb
  | k + 1, b, hb => by
    rcases mem_stepI.1 hb with q | ⟨z, q1, q2⟩
    · exact mem_stepI.2 (.inl (h.back hln ha k b q))
    · have hz := bI_there (xs := [a]) (by intro x hx; rw [List.mem_singleton] at hx; subst hx; exact ha) k z q1
      have h1 : z ∈ bI ns level [b] 1 := mem_stepI.2 (.inr ⟨b, List.mem_singleton.2 rfl, (h.sym hln hz q2).1⟩)
      have h2 := bI_trans h1 k a (h.back hln ha k z q1)
      rwa [Nat.add_comm] at h2
theorem Right.st {ns : List ND} (h : Right ns) (hln : ∀ k, k < ns.length → (nAt ns k).ls.length = (nAt ns k).ln) {level a b r : Int} {is : Bool} (ha : thB ns a = true) (hb : thB ns b = true) (hs : StR ns level a b r is) : StR ns level b a r is := by
  rcases hs with ⟨rfl, _, k, rfl, h2, h3⟩ | ⟨rfl, rfl, h1⟩
  · exact .inl ⟨rfl, ha, k, rfl, h.back hln ha k b h2, fun j hj q => h3 j hj (h.back hln hb j a q)⟩
  · refine .inr ⟨rfl, rfl, .inr fun q => ?_⟩
    rcases h1 with h1 | h1
    · rw [hb] at h1; cases h1
    · exact h1 (h.back hln hb _ a q)
/-- Steps add up. -/
theorem StR.add {ns : List ND} {level a b c x y z : Int} {w3 : Bool} (h1 : StR ns level a b x true) (h2 : StR ns level b c y true) (h3 : StR ns level a c z w3) : w3 = true ∧ z ≤ x + y := by
  rcases h1 with ⟨_, _, k, rfl, p1, _⟩ | ⟨e, _⟩
  · rcases h2 with ⟨_, t, j, rfl, p2, _⟩ | ⟨e, _⟩
    · have hc := bI_trans p1 j c p2
      rcases h3 with ⟨rfl, _, i, rfl, _, p4⟩ | ⟨rfl, _, q⟩
      · refine ⟨rfl, ?_⟩
        have : ¬ k + j < i := fun q => p4 _ q hc
        omega
      · rcases q with q | q
        · rw [t] at q; cases q
        · exact absurd (bI_cl hc) q
    · cases e
  · cases e
theorem bI_un {ns : List ND} {level : Int} {xs : List Int} : ∀ (k : Nat), (∀ j, j < k → stepI ns level (bI ns level xs j) ≠ bI ns level xs j) → unI ns (bI ns level xs k) + k ≤ ns.length
  | 0, _ => unI_le ns _
  | k + 1, h => by
    have h1 := bI_un k fun j hj => h j (by omega)
    have h2 := rI_less (h k (by omega))
    omega
theorem StR.le {ns : List ND} {level a b x : Int} {is : Bool} (h : StR ns level a b x is) : 0 ≤ x ∧ x ≤ ns.length := by
  rcases h with ⟨_, _, k, rfl, p1, p2⟩ | ⟨_, rfl, _⟩
  · have := bI_un (ns := ns) (level := level) (xs := [a]) k fun j hj e => p2 j hj (by
      have h1 := bI_stay e (k - j)
      rw [show j + (k - j) = k from by omega] at h1
      rw [h1] at p1; exact p1)
    omega
  · omega
theorem StR.from_ {ns : List ND} {level a b x : Int} (h : StR ns level a b x true) : hasI (fromI ns level [a]) b = true := by
  rcases h with ⟨_, t, k, rfl, p1, _⟩ | ⟨e, _⟩
  · exact hasI_iff.2 (List.mem_filter.2 ⟨mem_liveI.2 t, hasI_iff.2 (bI_cl p1)⟩)
  · cases e
theorem ringGo_all {ns : List ND} {P : Int → Prop} (hs : ∀ y, P y → thB ns y = true → thB ns (nAt ns y.toNat).next = true → P (nAt ns y.toNat).next) : ∀ (f : Nat) (out : List Int) (at_ : Int), (∀ y ∈ out, P y) → (thB ns at_ = true → P at_) → ∀ y ∈ ringGo ns f out at_, P y
  | 0, _, _, h1, _ => h1
  | f + 1, out, at_, h1, h2 => by
    unfold ringGo
    split
    · rename_i hc
      rw [Bool.and_eq_true] at hc
      refine ringGo_all hs f _ _ (fun y hy => ?_) fun ht => hs at_ (h2 hc.1) hc.1 ht
      rcases List.mem_append.1 hy with q | q
      · exact h1 y q
      · rw [List.mem_singleton] at q; subst q; exact h2 hc.1
    · exact h1
theorem ringGo_ok {ns : List ND} : ∀ (f : Nat) (out : List Int) (at_ : Int), out.Nodup → (ringGo ns f out at_).Nodup
  | 0, _, _, h => h
  | f + 1, out, at_, h => by
    unfold ringGo
    split
    · rename_i hc
      rw [Bool.and_eq_true, Bool.not_eq_true'] at hc
      refine ringGo_ok f _ _ (List.nodup_append.2 ⟨h, by simp, fun a ha b hb e => ?_⟩)
      rw [List.mem_singleton] at hb
      subst hb; subst e
      rw [hasI_iff.2 ha] at hc; cases hc.2
    · exact h
theorem Right.ringMem {ns : List ND} (h : Right ns) {x : Int} (hx : thB ns x = true) : x ∈ ringI ns := by
  have hne : ns.length ≠ 0 := by have := h.pos; omega
  have e : ringI ns = ringGo ns (ns.length + 1) [] (nAt ns 0).next := by unfold ringI; rw [if_neg hne]
  refine sub_eq (b := liveI ns) ?_ (fun y hy => mem_liveI.2 ?_) (by rw [h.ring]; exact Nat.le_refl _) x (mem_liveI.2 hx)
  · rw [e]; exact ringGo_ok _ _ _ List.nodup_nil
  · rw [e] at hy
    exact ringGo_all (P := fun y => thB ns y = true) (fun y _ _ q => q) _ _ _ (fun y q => by cases q) (fun q => q) y hy
theorem Right.next0 {ns : List ND} {y : Int} (hy : 0 ≤ y ∧ y < ns.length) (hn : thB ns (nAt ns y.toNat).next = true) : (nAt ns y.toNat).next ∈ nearI ns y 0 := by
  refine near_mem.2 ⟨hy, ?_, hn⟩
  unfold nearSrc
  refine List.mem_append_right _ ?_
  rw [if_pos rfl]; simp
theorem Right.whole {ns : List ND} (h : Right ns) : wholeI ns = true := by
  have hcl : ∀ x, thB ns x = true → x ∈ clI ns 0 [0] := fun x hx => by
    have hne : ns.length ≠ 0 := by have := h.pos; omega
    have e : ringI ns = ringGo ns (ns.length + 1) [] (nAt ns 0).next := by unfold ringI; rw [if_neg hne]
    have h1 := h.ringMem hx
    rw [e] at h1
    have hsh := stepI_shut.1 (clI_shut ns 0 [0])
    refine ringGo_all (P := fun y => y ∈ clI ns 0 [0]) (fun y q1 q2 q3 => hsh _ (mem_nextI.2 ⟨y, q1, Right.next0 (th_range q2) q3⟩)) _ _ _ (fun y q => by cases q) (fun q => ?_) x h1
    have h0 : (0 : Int) ∈ clI ns 0 [0] := bI_cl (k := 0) (List.mem_singleton.2 rfl)
    exact hsh _ (mem_nextI.2 ⟨0, h0, Right.next0 (y := 0) (by omega) q⟩)
  unfold wholeI fromI
  rw [decide_eq_true_iff, List.filter_eq_self.2]
  exact fun x hx => hasI_iff.2 (hcl x (mem_liveI.1 hx))
/-- The groups of a level. -/
structure GrpI (ns : List ND) (level : Int) (l : List Int) (p : List (List Int) × List Int) : Prop where
  flat : p.1.flatten = p.2
  nd : p.2.Nodup
  mem : ∀ s ∈ p.2, thB ns s = true ∧ level ≤ (nAt ns s.toNat).level
  shut : ∀ s ∈ p.2, ∀ y ∈ nearI ns s level, y ∈ p.2
  all : ∀ s ∈ l, level ≤ (nAt ns s.toNat).level → s ∈ p.2
theorem bI_lev {ns : List ND} (h : Right ns) (hln : ∀ k, k < ns.length → (nAt ns k).ls.length = (nAt ns k).ln) {level s : Int} (hs : thB ns s = true) (hl : level ≤ (nAt ns s.toNat).level) : ∀ (k : Nat), ∀ y ∈ bI ns level [s] k, thB ns y = true ∧ level ≤ (nAt ns y.toNat).level
  | 0, y, q => by
    have : y = s := by simpa [bI] using q
    subst this; exact ⟨hs, hl⟩
  | k + 1, y, q => by
    rcases mem_stepI.1 q with q | ⟨z, q1, q2⟩
    · exact bI_lev h hln hs hl k y q
    · exact ⟨near_there q2, (h.sym hln (bI_lev h hln hs hl k z q1).1 q2).2⟩
theorem GrpI.apart {ns : List ND} (h : Right ns) (hln : ∀ k, k < ns.length → (nAt ns k).ls.length = (nAt ns k).ln) {level : Int} {l : List Int} {p : List (List Int) × List Int} (hp : GrpI ns level l p) {s : Int} (hs : thB ns s = true) (hn : s ∉ p.2) : ∀ (k : Nat), ∀ y ∈ bI ns level [s] k, y ∉ p.2
  | 0, y, q => by
    have : y = s := by simpa [bI] using q
    subst this; exact hn
  | k + 1, y, q => by
    rcases mem_stepI.1 q with q | ⟨z, q1, q2⟩
    · exact GrpI.apart h hln hp hs hn k y q
    · intro hy
      have hz := bI_there (xs := [s]) (by intro x hx; rw [List.mem_singleton] at hx; subst hx; exact hs) k z q1
      exact GrpI.apart h hln hp hs hn k z q1 (hp.shut y hy z (h.sym hln hz q2).1)
theorem GrpI.step {ns : List ND} (h : Right ns) (hln : ∀ k, k < ns.length → (nAt ns k).ls.length = (nAt ns k).ln) {level : Int} {l : List Int} {p : List (List Int) × List Int} (hp : GrpI ns level l p) {s : Int} (hs : thB ns s = true) : GrpI ns level (l ++ [s]) (grpF ns level p s) := by
  unfold grpF
  split
  · rename_i hc
    rw [Bool.or_eq_true, decide_eq_true_eq, hasI_iff] at hc
    refine ⟨hp.flat, hp.nd, hp.mem, hp.shut, fun y hy hl => ?_⟩
    rcases List.mem_append.1 hy with q | q
    · exact hp.all y q hl
    · rw [List.mem_singleton] at q; subst q
      rcases hc with hc | hc
      · omega
      · exact hc
  · rename_i hc
    rw [Bool.or_eq_true, decide_eq_true_eq, hasI_iff, not_or] at hc
    have hl : level ≤ (nAt ns s.toNat).level := by omega
    have hF : ∀ y, y ∈ fromI ns level [s] ↔ y ∈ clI ns level [s] := fun y => by
      unfold fromI
      rw [List.mem_filter, hasI_iff]
      exact ⟨fun q => q.2, fun q => ⟨mem_liveI.2 (bI_lev h hln hs hl _ y q).1, q⟩⟩
    refine ⟨by show (p.1 ++ [fromI ns level [s]]).flatten = _; rw [List.flatten_append, hp.flat]; simp, List.nodup_append.2 ⟨hp.nd, (nodup_liveI ns).filter _, fun a ha b hb e => ?_⟩, fun y hy => ?_, fun y hy z hz => ?_, fun y hy hl' => ?_⟩
    · subst e
      exact hp.apart h hln hs hc.2 _ a ((hF a).1 hb) ha
    · rcases List.mem_append.1 hy with q | q
      · exact hp.mem y q
      · exact bI_lev h hln hs hl _ y ((hF y).1 q)
    · rcases List.mem_append.1 hy with q | q
      · exact List.mem_append_left _ (hp.shut y q z hz)
      · refine List.mem_append_right _ ((hF z).2 (stepI_shut.1 (clI_shut ns level [s]) z (mem_nextI.2 ⟨y, (hF y).1 q, hz⟩)))
    · rcases List.mem_append.1 hy with q | q
      · exact List.mem_append_left _ (hp.all y q hl')
      · rw [List.mem_singleton] at q; subst q
        exact List.mem_append_right _ (fromI_self (mem_liveI.2 hs))
theorem GrpI.fold {ns : List ND} (h : Right ns) (hln : ∀ k, k < ns.length → (nAt ns k).ls.length = (nAt ns k).ln) {level : Int} : ∀ (m : List Int) (l : List Int) (p : List (List Int) × List Int), (∀ s ∈ m, thB ns s = true) → GrpI ns level l p → GrpI ns level (l ++ m) (m.foldl (grpF ns level) p)
  | [], l, p, _, hp => by rw [List.append_nil]; exact hp
  | s :: m, l, p, hm, hp => by
    rw [List.foldl_cons, show l ++ s :: m = (l ++ [s]) ++ m by simp]
    exact GrpI.fold h hln m _ _ (fun y hy => hm y (List.mem_cons_of_mem _ hy)) (hp.step h hln (hm s List.mem_cons_self))
/-- The groups have each slot of the level once. -/
theorem Right.groups {ns : List ND} (h : Right ns) (hln : ∀ k, k < ns.length → (nAt ns k).ls.length = (nAt ns k).ln) (level : Int) : (grpI ns level).flatten.Nodup ∧ (∀ s ∈ (grpI ns level).flatten, thB ns s = true ∧ level ≤ (nAt ns s.toNat).level) ∧ (grpI ns level).flatten.length = ((liveI ns).filter fun s => decide (level ≤ (nAt ns s.toNat).level)).length := by
  have hp := GrpI.fold h hln (level := level) (liveI ns) [] ([], []) (fun s hs => mem_liveI.1 hs) ⟨rfl, List.nodup_nil, (fun s q => by cases q), (fun s q => by cases q), (fun s q => by cases q)⟩
  have e : (grpI ns level).flatten = ((liveI ns).foldl (grpF ns level) ([], [])).2 := hp.flat
  rw [e]
  refine ⟨hp.nd, hp.mem, Nat.le_antisymm (len_sub _ _ hp.nd fun s hs => List.mem_filter.2 ⟨mem_liveI.2 (hp.mem s hs).1, decide_eq_true (hp.mem s hs).2⟩) (len_sub _ _ ((nodup_liveI ns).filter _) fun s hs => ?_)⟩
  obtain ⟨q1, q2⟩ := List.mem_filter.1 hs
  exact hp.all s (by simpa using q1) (of_decide_eq_true q2)
end Go.Proofs.Ytkhnnjeinpojkaa
