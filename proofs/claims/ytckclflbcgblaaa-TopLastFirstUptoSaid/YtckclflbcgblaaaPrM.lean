/- Right planes: what they have, and that Put, Link and Drop keep it; a box that is written again. -/
import Derived.Test.YtckclflbcgblaaaReMb
import Derived.Test.YtckclflbcgblaaaPmR
import Derived.Test.YtckclflbcgblaaaPmT
namespace Go.Proofs.Ytckclflbcgblaaa
open Go.RowKit Go.Maps Go.ChangeMaps Go.MapKept
theorem near_mem {ns : List ND} {s level y : Int} : y ∈ nearI ns s level ↔ (0 ≤ s ∧ s < ns.length) ∧ y ∈ nearSrc ns s.toNat level ∧ thB ns y = true := by
  unfold nearI
  split
  · rename_i h
    rw [kept_mem ns _ y _ (Nat.le_refl _), List.take_length]
    exact ⟨fun q => ⟨h, q⟩, fun q => q.2⟩
  · rename_i h
    exact ⟨fun q => (by cases q), fun q => absurd q.1 h⟩
theorem th_range {ns : List ND} {x : Int} (h : thB ns x = true) : 0 ≤ x ∧ x < ns.length := by
  obtain ⟨k, rfl, hk⟩ := thB_nat_iff.1 h
  have := (thN_iff.1 hk).2.1
  omega
theorem sub_eq {a b : List Int} (ha : a.Nodup) (hs : ∀ x ∈ a, x ∈ b) (hl : b.length ≤ a.length) : ∀ x ∈ b, x ∈ a := fun x hx => Classical.byContradiction fun q => by
  have := len_sub (x :: a) b (List.nodup_cons.2 ⟨q, ha⟩) fun y hy => by
    rcases List.mem_cons.1 hy with rfl | hy
    · exact hx
    · exact hs y hy
  rw [List.length_cons] at this; omega
/-- What a right plane has. -/
structure Right (ns : List ND) : Prop where
  pos : 1 ≤ ns.length
  place : ∀ k : Nat, k < ns.length → (k = 0 ∨ thN ns k = true) → ((nAt ns k).next = 0 ∨ thB ns (nAt ns k).next = true) ∧ ((nAt ns k).prev = 0 ∨ thB ns (nAt ns k).prev = true) ∧ (nAt ns (nAt ns k).next.toNat).prev = k
  ring : (ringI ns).length = (liveI ns).length
  lev : ∀ k : Nat, thN ns k = true → 0 ≤ (nAt ns k).level ∧ ((nAt ns k).ln : Int) = (nAt ns k).level + 1
  list : ∀ k l : Nat, thN ns k = true → l < (nAt ns k).ln → ∀ y ∈ (lsAt (nAt ns k) l).xs, thB ns y = true ∧ l < (nAt ns y.toNat).ln ∧ (k : Int) ∈ (lsAt (nAt ns y.toNat) l).xs
theorem place_iff {ns : List ND} {x : Int} (h : placeB ns x = true) : x = 0 ∨ thB ns x = true := by
  unfold placeB at h
  rw [Bool.or_eq_true] at h
  rcases h with h | h
  · exact .inl (by simpa using h)
  · exact .inr h
theorem right_of {ns : List ND} {links en tp : Int} (h : chkB ns links en tp = true) : Right ns := by
  unfold chkB at h
  simp only [Bool.and_eq_true, decide_eq_true_eq] at h
  obtain ⟨⟨⟨⟨h1, h2⟩, h3⟩, h4⟩, h5⟩ := h
  unfold ringB at h3
  rw [Bool.and_eq_true, List.all_eq_true] at h3
  obtain ⟨h31, h32⟩ := h3
  rw [List.all_eq_true] at h4
  have hn : ∀ k : Nat, thN ns k = true → nodeB ns k links = true := fun k hk => by
    have := h4 (k : Int) (mem_liveI.2 (by rw [thB_nat]; exact hk))
    rwa [Int.toNat_natCast] at this
  refine ⟨h1, fun k hk hp => ?_, ?_, fun k hk => ?_, fun k l hk hl y hy => ?_⟩
  · have q := h31 k (List.mem_range.2 hk)
    unfold rOk at q
    rw [if_neg (by
      rcases hp with rfl | hp
      · simp
      · rw [hp]; simp)] at q
    rw [Bool.and_eq_true, Bool.and_eq_true] at q
    exact ⟨place_iff q.1.1, place_iff q.1.2, by simpa using q.2⟩
  · have q := h32
    rw [beq_iff_eq] at q
    omega
  · have q := hn k hk
    unfold nodeB shapeB at q
    simp only [Bool.and_eq_true, Bool.not_eq_true', decide_eq_false_iff_not] at q
    obtain ⟨⟨⟨⟨q1, q2⟩, q3⟩, _⟩, _⟩ := q
    refine ⟨by omega, ?_⟩
    simpa using q3
  · have q := hn k hk
    unfold nodeB listsB at q
    rw [Bool.and_eq_true, Bool.and_eq_true, List.all_eq_true] at q
    have q2 := q.1.2 l (List.mem_range.2 hl)
    unfold listB at q2
    rw [Bool.and_eq_true, List.all_eq_true] at q2
    have q3 := q2.2 y hy
    unfold backB at q3
    rw [Bool.and_eq_true, Bool.and_eq_true, decide_eq_true_eq, hasI_iff] at q3
    exact ⟨q3.1.1, q3.1.2, q3.2⟩
theorem Right.turn {ns : List ND} (h : Right ns) {x : Int} (hx : x = 0 ∨ thB ns x = true) : (nAt ns (nAt ns x.toNat).prev.toNat).next = x := by
  have hP : ∀ y : Int, (y = 0 ∨ thB ns y = true) → y.toNat < ns.length ∧ (y.toNat = 0 ∨ thN ns y.toNat = true) ∧ ((y.toNat : Nat) : Int) = y := fun y hy => by
    have h1 := h.pos
    rcases hy with rfl | hy
    · exact ⟨by show 0 < _; omega, .inl rfl, rfl⟩
    · obtain ⟨k, rfl, hk⟩ := thB_nat_iff.1 hy
      exact ⟨by rw [Int.toNat_natCast]; exact (thN_iff.1 hk).2.1, .inr (by rw [Int.toNat_natCast]; exact hk), by rw [Int.toNat_natCast]⟩
  have hmem : ∀ y : Int, y ∈ (0 : Int) :: liveI ns ↔ (y = 0 ∨ thB ns y = true) := fun y => by rw [List.mem_cons, mem_liveI]
  have hnx : ∀ y : Int, (y = 0 ∨ thB ns y = true) → ((nAt ns y.toNat).next = 0 ∨ thB ns (nAt ns y.toNat).next = true) ∧ (nAt ns (nAt ns y.toNat).next.toNat).prev = y := fun y hy => by
    obtain ⟨p1, p2, p3⟩ := hP y hy
    obtain ⟨q1, q2, q3⟩ := h.place _ p1 p2
    exact ⟨q1, by rw [q3, p3]⟩
  have hnd : ((0 : Int) :: liveI ns).Nodup := List.nodup_cons.2 ⟨fun q => by
    have := mem_liveI.1 q
    obtain ⟨k, e, hk⟩ := thB_nat_iff.1 this
    have := (thN_iff.1 hk).1
    omega, nodup_liveI ns⟩
  have hmap : (((0 : Int) :: liveI ns).map fun y => (nAt ns y.toNat).next).Nodup := by
    refine List.Pairwise.of_map (S := (· ≠ ·)) (fun z : Int => (nAt ns z.toNat).prev) (fun a b hab e => hab (by rw [e])) ?_
    rw [List.map_map]
    have e : ((0 : Int) :: liveI ns).map ((fun z : Int => (nAt ns z.toNat).prev) ∘ fun y => (nAt ns y.toNat).next) = (0 : Int) :: liveI ns := by
      refine (List.map_congr_left (g := id) fun y hy => ?_).trans (List.map_id _)
      exact (hnx y ((hmem y).1 hy)).2
    rw [e]; exact hnd
  have hsur := sub_eq hmap (b := (0 : Int) :: liveI ns) (fun z hz => by
    obtain ⟨y, hy, rfl⟩ := List.mem_map.1 hz
    exact (hmem _).2 (hnx y ((hmem y).1 hy)).1) (by rw [List.length_map]; exact Nat.le_refl _)
  obtain ⟨z, hz, hzx⟩ := List.mem_map.1 (hsur x ((hmem x).2 hx))
  have h1 := hnx z ((hmem z).1 hz)
  have hzx' : (nAt ns z.toNat).next = x := hzx
  rw [hzx'] at h1
  rw [h1.2, hzx']
theorem Right.sym {ns : List ND} (h : Right ns) (hln : ∀ k, k < ns.length → (nAt ns k).ls.length = (nAt ns k).ln) {x y level : Int} (hx : thB ns x = true) (hy : y ∈ nearI ns x level) : x ∈ nearI ns y level ∧ (level ≤ (nAt ns y.toNat).level) := by
  obtain ⟨q1, q2, q3⟩ := near_mem.1 hy
  obtain ⟨k, rfl, hk⟩ := thB_nat_iff.1 hx
  obtain ⟨m, rfl, hm⟩ := thB_nat_iff.1 q3
  rw [Int.toNat_natCast] at q2
  have hkl := (thN_iff.1 hk).2.1
  have hml := (thN_iff.1 hm).2.1
  have hm1 := (thN_iff.1 hm).1
  have hmr : (0 : Int) ≤ (m : Int) ∧ (m : Int) < ns.length := by omega
  unfold nearSrc at q2
  rcases List.mem_append.1 q2 with q | q
  · split at q
    · rename_i hc
      obtain ⟨l, rfl⟩ : ∃ l : Nat, level = l := ⟨level.toNat, by omega⟩
      rw [Int.toNat_natCast] at q
      have hl : l < (nAt ns k).ln := by have := hln k hkl; omega
      obtain ⟨_, p2, p3⟩ := h.list k l hk hl _ q
      rw [Int.toNat_natCast] at p2 p3
      have hlev := (h.lev m hm).2
      refine ⟨near_mem.2 ⟨hmr, ?_, hx⟩, by rw [Int.toNat_natCast]; omega⟩
      rw [Int.toNat_natCast]
      unfold nearSrc
      refine List.mem_append_left _ ?_
      rw [if_pos ⟨by omega, by omega, by have := hln m hml; omega⟩, Int.toNat_natCast]
      exact p3
    · cases q
  · split at q
    · rename_i hc
      subst hc
      refine ⟨near_mem.2 ⟨hmr, ?_, hx⟩, by rw [Int.toNat_natCast]; exact (h.lev m hm).1⟩
      rw [Int.toNat_natCast]
      unfold nearSrc
      refine List.mem_append_right _ ?_
      rw [if_pos rfl]
      simp only [List.mem_cons, List.not_mem_nil, or_false] at q ⊢
      rcases q with q | q
      · have := (h.place k hkl (.inr hk)).2.2
        rw [← q, Int.toNat_natCast] at this
        exact .inr this.symm
      · have := h.turn (x := (k : Int)) (.inr hx)
        rw [Int.toNat_natCast, ← q, Int.toNat_natCast] at this
        exact .inl this.symm
    · cases q
theorem bI_trans {ns : List ND} {level b : Int} {xs : List Int} {k : Nat} (hb : b ∈ bI ns level xs k) : ∀ (j : Nat) (c : Int), c ∈ bI ns level [b] j → c ∈ bI ns level xs (k + j)
  | 0, c, h => by
    have : c = b := by simpa [bI] using h
    subst this; exact hb
  | j + 1, c, h => by
    rcases mem_stepI.1 h with q | ⟨z, q1, q2⟩
    · exact mem_stepI.2 (.inl (bI_trans hb j c q))
    · exact mem_stepI.2 (.inr ⟨z, bI_trans hb j z q1, q2⟩)
theorem bI_there {ns : List ND} {level : Int} {xs : List Int} (hx : ∀ x ∈ xs, thB ns x = true) : ∀ (k : Nat), ∀ y ∈ bI ns level xs k, thB ns y = true
  | 0, y, h => hx y h
  | k + 1, y, h => by
    rcases mem_stepI.1 h with q | ⟨z, _, q2⟩
    · exact bI_there hx k y q
    · exact near_there q2
theorem Right.back {ns : List ND} (h : Right ns) (hln : ∀ k, k < ns.length → (nAt ns k).ls.length = (nAt ns k).ln) {level a : Int} (ha : thB ns a = true) : ∀ (k : Nat) (b : Int), b ∈ bI ns level [a] k → a ∈ bI ns level [b] k
  | 0, b, hb => by
    have : b = a := by simpa [bI] using hb
    subst this; exact hb
  | k + 1, b, hb => by
    rcases mem_stepI.1 hb with q | ⟨z, q1, q2⟩
    · exact mem_stepI.2 (.inl (h.back hln ha k b q))
    · have hz := bI_there (xs := [a]) (by intro x hx; rw [List.mem_singleton] at hx; subst hx; exact ha) k z q1
      have h1 : z ∈ bI ns level [b] 1 := mem_stepI.2 (.inr ⟨b, List.mem_singleton.2 rfl, (h.sym hln hz q2).1⟩)
      have h2 := bI_trans h1 k a (h.back hln ha k z q1)
      rwa [Nat.add_comm] at h2
theorem Right.st {ns : List ND} (h : Right ns) (hln : ∀ k, k < ns.length → (nAt ns k).ls.length = (nAt ns k).ln) {level a b r : Int} {is : Bool} (ha : thB ns a = true) (hb : thB ns b = true) (hs : StR ns level a b r is) : StR ns level b a r is := by
  rcases hs with ⟨rfl, _, k, rfl, h2, h3⟩ | ⟨rfl, rfl, h1⟩
  · exact .inl ⟨rfl, ha, k, rfl, h.back hln ha k b h2, fun j hj q => h3 j hj (h.back hln hb j a q)⟩
  · refine .inr ⟨rfl, rfl, .inr fun q => ?_⟩
    rcases h1 with h1 | h1
    · rw [hb] at h1; cases h1
    · exact h1 (h.back hln hb _ a q)
/-- Steps add up. -/
theorem StR.add {ns : List ND} {level a b c x y z : Int} {w3 : Bool} (h1 : StR ns level a b x true) (h2 : StR ns level b c y true) (h3 : StR ns level a c z w3) : w3 = true ∧ z ≤ x + y := by
  rcases h1 with ⟨_, _, k, rfl, p1, _⟩ | ⟨e, _⟩
  · rcases h2 with ⟨_, t, j, rfl, p2, _⟩ | ⟨e, _⟩
    · have hc := bI_trans p1 j c p2
      rcases h3 with ⟨rfl, _, i, rfl, _, p4⟩ | ⟨rfl, _, q⟩
      · refine ⟨rfl, ?_⟩
        have : ¬ k + j < i := fun q => p4 _ q hc
        omega
      · rcases q with q | q
        · rw [t] at q; cases q
        · exact absurd (bI_cl hc) q
    · cases e
  · cases e
theorem bI_un {ns : List ND} {level : Int} {xs : List Int} : ∀ (k : Nat), (∀ j, j < k → stepI ns level (bI ns level xs j) ≠ bI ns level xs j) → unI ns (bI ns level xs k) + k ≤ ns.length
  | 0, _ => unI_le ns _
  | k + 1, h => by
    have h1 := bI_un k fun j hj => h j (by omega)
    have h2 := rI_less (h k (by omega))
    omega
theorem StR.le {ns : List ND} {level a b x : Int} {is : Bool} (h : StR ns level a b x is) : 0 ≤ x ∧ x ≤ ns.length := by
  rcases h with ⟨_, _, k, rfl, p1, p2⟩ | ⟨_, rfl, _⟩
  · have := bI_un (ns := ns) (level := level) (xs := [a]) k fun j hj e => p2 j hj (by
      have h1 := bI_stay e (k - j)
      rw [show j + (k - j) = k from by omega] at h1
      rw [h1] at p1; exact p1)
    omega
  · omega
theorem StR.from_ {ns : List ND} {level a b x : Int} (h : StR ns level a b x true) : hasI (fromI ns level [a]) b = true := by
  rcases h with ⟨_, t, k, rfl, p1, _⟩ | ⟨e, _⟩
  · exact hasI_iff.2 (List.mem_filter.2 ⟨mem_liveI.2 t, hasI_iff.2 (bI_cl p1)⟩)
  · cases e
theorem ringGo_all {ns : List ND} {P : Int → Prop} (hs : ∀ y, P y → thB ns y = true → thB ns (nAt ns y.toNat).next = true → P (nAt ns y.toNat).next) : ∀ (f : Nat) (out : List Int) (at_ : Int), (∀ y ∈ out, P y) → (thB ns at_ = true → P at_) → ∀ y ∈ ringGo ns f out at_, P y
  | 0, _, _, h1, _ => h1
  | f + 1, out, at_, h1, h2 => by
    unfold ringGo
    split
    · rename_i hc
      rw [Bool.and_eq_true] at hc
      refine ringGo_all hs f _ _ (fun y hy => ?_) fun ht => hs at_ (h2 hc.1) hc.1 ht
      rcases List.mem_append.1 hy with q | q
      · exact h1 y q
      · rw [List.mem_singleton] at q; subst q; exact h2 hc.1
    · exact h1
theorem ringGo_ok {ns : List ND} : ∀ (f : Nat) (out : List Int) (at_ : Int), out.Nodup → (ringGo ns f out at_).Nodup
  | 0, _, _, h => h
  | f + 1, out, at_, h => by
    unfold ringGo
    split
    · rename_i hc
      rw [Bool.and_eq_true, Bool.not_eq_true'] at hc
      refine ringGo_ok f _ _ (List.nodup_append.2 ⟨h, by simp, fun a ha b hb e => ?_⟩)
      rw [List.mem_singleton] at hb
      subst hb; subst e
      rw [hasI_iff.2 ha] at hc; cases hc.2
    · exact h
theorem Right.ringMem {ns : List ND} (h : Right ns) {x : Int} (hx : thB ns x = true) : x ∈ ringI ns := by
  have hne : ns.length ≠ 0 := by have := h.pos; omega
  have e : ringI ns = ringGo ns (ns.length + 1) [] (nAt ns 0).next := by unfold ringI; rw [if_neg hne]
  refine sub_eq (b := liveI ns) ?_ (fun y hy => mem_liveI.2 ?_) (by rw [h.ring]; exact Nat.le_refl _) x (mem_liveI.2 hx)
  · rw [e]; exact ringGo_ok _ _ _ List.nodup_nil
  · rw [e] at hy
    exact ringGo_all (P := fun y => thB ns y = true) (fun y _ _ q => q) _ _ _ (fun y q => by cases q) (fun q => q) y hy
theorem Right.next0 {ns : List ND} {y : Int} (hy : 0 ≤ y ∧ y < ns.length) (hn : thB ns (nAt ns y.toNat).next = true) : (nAt ns y.toNat).next ∈ nearI ns y 0 := by
  refine near_mem.2 ⟨hy, ?_, hn⟩
  unfold nearSrc
  refine List.mem_append_right _ ?_
  rw [if_pos rfl]; simp
theorem Right.whole {ns : List ND} (h : Right ns) : wholeI ns = true := by
  have hcl : ∀ x, thB ns x = true → x ∈ clI ns 0 [0] := fun x hx => by
    have hne : ns.length ≠ 0 := by have := h.pos; omega
    have e : ringI ns = ringGo ns (ns.length + 1) [] (nAt ns 0).next := by unfold ringI; rw [if_neg hne]
    have h1 := h.ringMem hx
    rw [e] at h1
    have hsh := stepI_shut.1 (clI_shut ns 0 [0])
    refine ringGo_all (P := fun y => y ∈ clI ns 0 [0]) (fun y q1 q2 q3 => hsh _ (mem_nextI.2 ⟨y, q1, Right.next0 (th_range q2) q3⟩)) _ _ _ (fun y q => by cases q) (fun q => ?_) x h1
    have h0 : (0 : Int) ∈ clI ns 0 [0] := bI_cl (k := 0) (List.mem_singleton.2 rfl)
    exact hsh _ (mem_nextI.2 ⟨0, h0, Right.next0 (y := 0) (by omega) q⟩)
  unfold wholeI fromI
  rw [decide_eq_true_iff, List.filter_eq_self.2]
  exact fun x hx => hasI_iff.2 (hcl x (mem_liveI.1 hx))
/-- The groups of a level. -/
structure GrpI (ns : List ND) (level : Int) (l : List Int) (p : List (List Int) × List Int) : Prop where
  flat : p.1.flatten = p.2
  nd : p.2.Nodup
  mem : ∀ s ∈ p.2, thB ns s = true ∧ level ≤ (nAt ns s.toNat).level
  shut : ∀ s ∈ p.2, ∀ y ∈ nearI ns s level, y ∈ p.2
  all : ∀ s ∈ l, level ≤ (nAt ns s.toNat).level → s ∈ p.2
theorem bI_lev {ns : List ND} (h : Right ns) (hln : ∀ k, k < ns.length → (nAt ns k).ls.length = (nAt ns k).ln) {level s : Int} (hs : thB ns s = true) (hl : level ≤ (nAt ns s.toNat).level) : ∀ (k : Nat), ∀ y ∈ bI ns level [s] k, thB ns y = true ∧ level ≤ (nAt ns y.toNat).level
  | 0, y, q => by
    have : y = s := by simpa [bI] using q
    subst this; exact ⟨hs, hl⟩
  | k + 1, y, q => by
    rcases mem_stepI.1 q with q | ⟨z, q1, q2⟩
    · exact bI_lev h hln hs hl k y q
    · exact ⟨near_there q2, (h.sym hln (bI_lev h hln hs hl k z q1).1 q2).2⟩
theorem GrpI.apart {ns : List ND} (h : Right ns) (hln : ∀ k, k < ns.length → (nAt ns k).ls.length = (nAt ns k).ln) {level : Int} {l : List Int} {p : List (List Int) × List Int} (hp : GrpI ns level l p) {s : Int} (hs : thB ns s = true) (hn : s ∉ p.2) : ∀ (k : Nat), ∀ y ∈ bI ns level [s] k, y ∉ p.2
  | 0, y, q => by
    have : y = s := by simpa [bI] using q
    subst this; exact hn
  | k + 1, y, q => by
    rcases mem_stepI.1 q with q | ⟨z, q1, q2⟩
    · exact GrpI.apart h hln hp hs hn k y q
    · intro hy
      have hz := bI_there (xs := [s]) (by intro x hx; rw [List.mem_singleton] at hx; subst hx; exact hs) k z q1
      exact GrpI.apart h hln hp hs hn k z q1 (hp.shut y hy z (h.sym hln hz q2).1)
theorem GrpI.step {ns : List ND} (h : Right ns) (hln : ∀ k, k < ns.length → (nAt ns k).ls.length = (nAt ns k).ln) {level : Int} {l : List Int} {p : List (List Int) × List Int} (hp : GrpI ns level l p) {s : Int} (hs : thB ns s = true) : GrpI ns level (l ++ [s]) (grpF ns level p s) := by
  unfold grpF
  split
  · rename_i hc
    rw [Bool.or_eq_true, decide_eq_true_eq, hasI_iff] at hc
    refine ⟨hp.flat, hp.nd, hp.mem, hp.shut, fun y hy hl => ?_⟩
    rcases List.mem_append.1 hy with q | q
    · exact hp.all y q hl
    · rw [List.mem_singleton] at q; subst q
      rcases hc with hc | hc
      · omega
      · exact hc
  · rename_i hc
    rw [Bool.or_eq_true, decide_eq_true_eq, hasI_iff, not_or] at hc
    have hl : level ≤ (nAt ns s.toNat).level := by omega
    have hF : ∀ y, y ∈ fromI ns level [s] ↔ y ∈ clI ns level [s] := fun y => by
      unfold fromI
      rw [List.mem_filter, hasI_iff]
      exact ⟨fun q => q.2, fun q => ⟨mem_liveI.2 (bI_lev h hln hs hl _ y q).1, q⟩⟩
    refine ⟨by show (p.1 ++ [fromI ns level [s]]).flatten = _; rw [List.flatten_append, hp.flat]; simp, List.nodup_append.2 ⟨hp.nd, (nodup_liveI ns).filter _, fun a ha b hb e => ?_⟩, fun y hy => ?_, fun y hy z hz => ?_, fun y hy hl' => ?_⟩
    · subst e
      exact hp.apart h hln hs hc.2 _ a ((hF a).1 hb) ha
    · rcases List.mem_append.1 hy with q | q
      · exact hp.mem y q
      · exact bI_lev h hln hs hl _ y ((hF y).1 q)
    · rcases List.mem_append.1 hy with q | q
      · exact List.mem_append_left _ (hp.shut y q z hz)
      · refine List.mem_append_right _ ((hF z).2 (stepI_shut.1 (clI_shut ns level [s]) z (mem_nextI.2 ⟨y, (hF y).1 q, hz⟩)))
    · rcases List.mem_append.1 hy with q | q
      · exact List.mem_append_left _ (hp.all y q hl')
      · rw [List.mem_singleton] at q; subst q
        exact List.mem_append_right _ (fromI_self (mem_liveI.2 hs))
theorem GrpI.fold {ns : List ND} (h : Right ns) (hln : ∀ k, k < ns.length → (nAt ns k).ls.length = (nAt ns k).ln) {level : Int} : ∀ (m : List Int) (l : List Int) (p : List (List Int) × List Int), (∀ s ∈ m, thB ns s = true) → GrpI ns level l p → GrpI ns level (l ++ m) (m.foldl (grpF ns level) p)
  | [], l, p, _, hp => by rw [List.append_nil]; exact hp
  | s :: m, l, p, hm, hp => by
    rw [List.foldl_cons, show l ++ s :: m = (l ++ [s]) ++ m by simp]
    exact GrpI.fold h hln m _ _ (fun y hy => hm y (List.mem_cons_of_mem _ hy)) (hp.step h hln (hm s List.mem_cons_self))
/-- The groups have each slot of the level once. -/
theorem Right.groups {ns : List ND} (h : Right ns) (hln : ∀ k, k < ns.length → (nAt ns k).ls.length = (nAt ns k).ln) (level : Int) : (grpI ns level).flatten.Nodup ∧ (∀ s ∈ (grpI ns level).flatten, thB ns s = true ∧ level ≤ (nAt ns s.toNat).level) ∧ (grpI ns level).flatten.length = ((liveI ns).filter fun s => decide (level ≤ (nAt ns s.toNat).level)).length := by
  have hp := GrpI.fold h hln (level := level) (liveI ns) [] ([], []) (fun s hs => mem_liveI.1 hs) ⟨rfl, List.nodup_nil, (fun s q => by cases q), (fun s q => by cases q), (fun s q => by cases q)⟩
  have e : (grpI ns level).flatten = ((liveI ns).foldl (grpF ns level) ([], [])).2 := hp.flat
  rw [e]
  refine ⟨hp.nd, hp.mem, Nat.le_antisymm (len_sub _ _ hp.nd fun s hs => List.mem_filter.2 ⟨mem_liveI.2 (hp.mem s hs).1, decide_eq_true (hp.mem s hs).2⟩) (len_sub _ _ ((nodup_liveI ns).filter _) fun s hs => ?_)⟩
  obtain ⟨q1, q2⟩ := List.mem_filter.1 hs
  exact hp.all s (by simpa using q1) (of_decide_eq_true q2)
def nI (ns : List ND) (x : Int) : ND := nAt ns x.toNat
def lx (ns : List ND) (x : Int) (l : Nat) : List Int := (lsAt (nI ns x) l).xs
def Pl (ns : List ND) (x : Int) : Prop := x = 0 ∨ thB ns x = true
theorem th_iff {ns : List ND} {x : Int} : thB ns x = true ↔ 1 ≤ x ∧ x < ns.length ∧ 0 ≤ (nI ns x).next := by
  unfold nI
  rw [thB_nat_iff]
  constructor
  · rintro ⟨k, rfl, hk⟩
    have := thN_iff.1 hk
    rw [Int.toNat_natCast]
    omega
  · rintro ⟨h1, h2, h3⟩
    exact ⟨x.toNat, by omega, thN_iff.2 ⟨by omega, by omega, h3⟩⟩
def Ch (ns : List ND) : Int → List Int → Prop
  | a, [] => a = 0
  | a, x :: l => a = x ∧ thB ns x = true ∧ Ch ns (nI ns x).next l
/-- A right plane whose ring is l. -/
structure Rp (ns : List ND) (links : Int) (l : List Int) : Prop where
  pos : 1 ≤ ns.length
  le : ns.length ≤ 4097
  hln : ∀ k, k < ns.length → (nAt ns k).ls.length = (nAt ns k).ln
  pl : ∀ x, Pl ns x → Pl ns (nI ns x).next ∧ Pl ns (nI ns x).prev ∧ (nI ns (nI ns x).next).prev = x
  bare : ∀ x : Int, 1 ≤ x → x < ns.length → thB ns x = false → bareB (nI ns x) = true
  shape : ∀ x, thB ns x = true → shapeB (nI ns x) = true
  ls : ∀ (x : Int) (k : Nat), thB ns x = true → k < (nI ns x).ln → (lx ns x k).Nodup ∧ ((lx ns x k).length : Int) ≤ mostE links k ∧ ∀ y ∈ lx ns x k, thB ns y = true ∧ y ≠ x ∧ k < (nI ns y).ln ∧ x ∈ lx ns y k
  ids : ∀ x y, thB ns x = true → thB ns y = true → (nI ns x).id = (nI ns y).id → x = y
  ch : Ch ns (nI ns 0).next l
  nd : l.Nodup
  all : ∀ x, thB ns x = true → x ∈ l
theorem Pl.nn {ns : List ND} {x : Int} (h : Pl ns x) : 0 ≤ x := by
  rcases h with rfl | h
  · exact Int.le_refl _
  · have := (th_iff.1 h).1; omega
theorem Ch.mem {ns : List ND} : ∀ {l : List Int} {a : Int}, Ch ns a l → ∀ x ∈ l, thB ns x = true
  | [], _, _, x, h => by cases h
  | y :: l, a, hc, x, h => by
    rcases List.mem_cons.1 h with rfl | h
    · exact hc.2.1
    · exact Ch.mem hc.2.2 x h
theorem Ch.congr {ns N : List ND} : ∀ {l : List Int} {a : Int}, Ch ns a l → (∀ x ∈ l, thB N x = true ∧ (nI N x).next = (nI ns x).next) → Ch N a l
  | [], _, h, _ => h
  | y :: l, a, h, hx => by
    have h1 := hx y List.mem_cons_self
    refine ⟨h.1, h1.1, ?_⟩
    rw [h1.2]
    exact Ch.congr h.2.2 fun x q => hx x (List.mem_cons_of_mem _ q)
theorem th0 (ns : List ND) : thB ns 0 = false := by
  cases h : thB ns 0 with
  | false => rfl
  | true => have := (th_iff.1 h).1; omega
theorem ringGo_ch {ns : List ND} : ∀ (l : List Int) (f : Nat) (out : List Int) (a : Int), Ch ns a l → (out ++ l).Nodup → l.length < f → ringGo ns f out a = out ++ l
  | [], f + 1, out, a, h, _, _ => by
    have h' : a = 0 := h
    subst h'
    unfold ringGo
    rw [th0, Bool.false_and, if_neg (by decide), List.append_nil]
  | x :: l, f + 1, out, a, h, hn, hl => by
    obtain ⟨rfl, h2, h3⟩ := h
    have hno : hasI out a = false := by
      cases q : hasI out a with
      | false => rfl
      | true => exact absurd rfl ((List.nodup_append.1 hn).2.2 _ (hasI_iff.1 q) _ List.mem_cons_self)
    unfold ringGo
    rw [h2, hno, Bool.not_false, Bool.and_self, if_pos rfl]
    refine (ringGo_ch l f (out ++ [a]) _ h3 (by rw [List.append_assoc]; exact hn) (by rw [List.length_cons] at hl; omega)).trans ?_
    simp
section
variable {ns : List ND} {links : Int} {l : List Int}
theorem Rp.len (h : Rp ns links l) : l.length = (liveI ns).length := Nat.le_antisymm (len_sub _ _ h.nd fun x hx => mem_liveI.2 (h.ch.mem x hx)) (len_sub _ _ (nodup_liveI ns) fun x hx => h.all x (mem_liveI.1 hx))
theorem Rp.ring (h : Rp ns links l) : ringI ns = l := by
  have hne : ns.length ≠ 0 := by have := h.pos; omega
  have h1 := h.len
  have h2 := liveI_le ns
  unfold ringI
  rw [if_neg hne]
  exact ringGo_ch l (ns.length + 1) [] _ h.ch (by simpa using h.nd) (by omega)
theorem Pl.place {x : Int} (h : Pl ns x) : placeB ns x = true := by
  unfold placeB
  rcases h with rfl | h
  · rfl
  · rw [h, Bool.or_true]
theorem Rp.chk (h : Rp ns links l) {en tp : Int} (he : entB ns en tp = true) : chkB ns links en tp = true := by
  unfold chkB
  simp only [Bool.and_eq_true, decide_eq_true_eq]
  refine ⟨⟨⟨⟨h.pos, h.le⟩, ?_⟩, ?_⟩, he⟩
  · rw [ringB_all fun k hk => ?_, h.ring, h.len, beq_self_eq_true]
    unfold rOk
    by_cases hp : 0 < k ∧ thN ns k = false
    · rw [if_pos (by rw [decide_eq_true hp.1, hp.2]; rfl)]
      have := h.bare (k : Int) (by omega) (by omega) (by rw [thB_nat]; exact hp.2)
      unfold nI at this
      rwa [Int.toNat_natCast] at this
    · have hP : Pl ns (k : Int) := by
        rcases Nat.eq_zero_or_pos k with rfl | q
        · exact .inl rfl
        · refine .inr ?_
          rw [thB_nat]
          cases e : thN ns k with
          | true => rfl
          | false => exact absurd ⟨q, e⟩ hp
      rw [if_neg (by
        intro q
        rw [Bool.and_eq_true, decide_eq_true_eq, Bool.not_eq_true'] at q
        exact hp q)]
      obtain ⟨h1, h2, h3⟩ := h.pl _ hP
      unfold nI at h1 h2 h3
      rw [Int.toNat_natCast] at h1 h2 h3
      rw [h1.place, h2.place, h3, beq_self_eq_true]; rfl
  · rw [List.all_eq_true]
    intro x hx
    have ht := mem_liveI.1 hx
    obtain ⟨k, rfl, hk⟩ := thB_nat_iff.1 ht
    unfold nodeB
    rw [Bool.and_eq_true, Bool.and_eq_true]
    refine ⟨⟨h.shape _ ht, lists_all fun i hi => ?_⟩, ?_⟩
    · obtain ⟨q1, q2, q3⟩ := h.ls _ i ht hi
      unfold listB
      rw [Bool.and_eq_true, List.all_eq_true]
      refine ⟨?_, fun y hy => ?_⟩
      · unfold rightB
        rw [Bool.and_eq_true, Bool.and_eq_true, List.all_eq_true, decide_eq_true_eq, decide_eq_true_eq]
        refine ⟨⟨fun y hy => ?_, q1⟩, q2⟩
        obtain ⟨p1, p2, _⟩ := q3 y hy
        have p3 := th_iff.1 p1
        unfold okE
        rw [Int.toNat_natCast]
        simp only [Bool.and_eq_true, Bool.not_eq_true', beq_eq_false_iff_ne, decide_eq_false_iff_not]
        exact ⟨⟨p2, by omega⟩, by omega⟩
      · obtain ⟨p1, p2, p3, p4⟩ := q3 y hy
        unfold backB
        rw [p1, Bool.true_and, Bool.and_eq_true, decide_eq_true_eq, hasI_iff, Int.toNat_natCast]
        exact ⟨p3, p4⟩
    · unfold onceB
      rw [List.all_eq_true]
      intro y hy
      rw [Int.toNat_natCast]
      cases e : (y != (k : Int)) && (idI ns y == idI ns k) with
      | false => rfl
      | true =>
        rw [Bool.and_eq_true, bne_iff_ne, beq_iff_eq] at e
        exact absurd (h.ids y k (mem_liveI.1 hy) ht (by have := e.2; unfold idI at this; exact this)) e.1
theorem Rp.right (h : Rp ns links l) : Right ns := right_of (h.chk (en := 0) (tp := 0) rfl)
theorem Rp.turn (h : Rp ns links l) {x : Int} (hx : Pl ns x) : (nI ns (nI ns x).prev).next = x := h.right.turn hx
end
theorem Rp.new (links : Int) : Rp [nd0] links [] := by
  have hno : ∀ x, thB [nd0] x = true → False := fun x hx => by
    have := th_iff.1 hx
    simp at this
    omega
  refine ⟨by decide, by decide, fun k hk => ?_, fun x hx => ?_, fun x h1 h2 _ => ?_, fun x h => (hno x h).elim, fun x _ h => (hno x h).elim, fun x _ h => (hno x h).elim, rfl, List.nodup_nil, fun x h => (hno x h).elim⟩
  · obtain rfl : k = 0 := by simpa using hk
    rfl
  · obtain rfl : x = 0 := hx.resolve_right fun q => hno x q
    exact ⟨.inl rfl, .inl rfl, rfl⟩
  · simp at h2; omega
theorem nAt_set (l : List ND) (i j : Nat) (d : ND) : nAt (l.set i d) j = if j = i ∧ i < l.length then d else nAt l j := by
  unfold nAt
  rw [List.getD_eq_getElem?_getD, List.getD_eq_getElem?_getD, List.getElem?_set]
  by_cases h : i = j
  · subst h
    by_cases h2 : i < l.length
    · rw [if_pos rfl, if_pos h2, if_pos ⟨rfl, h2⟩]; rfl
    · rw [if_pos rfl, if_neg h2, if_neg (fun q => h2 q.2), List.getElem?_eq_none (by omega)]
  · rw [if_neg h, if_neg (fun q => h q.1.symm)]
theorem nAt_grow (ns : List ND) (s j : Nat) : nAt (growN ns s) j = nAt ns j := by
  unfold growN
  split
  · unfold nAt
    rw [List.getD_eq_getElem?_getD, List.getD_eq_getElem?_getD]
    by_cases h : j < ns.length
    · rw [List.getElem?_append_left h]
    · rw [List.getElem?_eq_none (l := ns) (by omega)]
      by_cases h2 : j = ns.length
      · subst h2; simp
      · rw [List.getElem?_eq_none (by simp; omega)]
  · rfl
theorem len_grow (ns : List ND) {s : Nat} (h : s ≤ ns.length) : s < (growN ns s).length ∧ ns.length ≤ (growN ns s).length ∧ ((growN ns s).length = ns.length ∨ ((growN ns s).length = ns.length + 1 ∧ s = ns.length)) := by
  unfold growN
  split
  · simp; omega
  · omega
/-- The slot that Put takes is not there. -/
theorem lv_sorted (ns : List ND) : (liveI ns).Pairwise (· < ·) := by
  unfold liveI lvI
  refine List.Pairwise.map (S := (· < ·)) (R := (· < ·)) _ (fun a b (h : a < b) => by omega) ?_
  exact (List.pairwise_lt_range).filter _
theorem slot_free (ns : List ND) : ((slotI ns : Nat) : Int) ∉ liveI ns := by
  have key : ∀ j, j ≤ (liveI ns).length → ((slotJ ns j : Nat) : Int) ∉ (liveI ns).take j := by
    intro j
    induction j with
    | zero => intro _; simp
    | succ j ih =>
      intro hj
      have hjl : j < (liveI ns).length := hj
      rw [slotJ_succ hjl, take_step hjl]
      have hlt : ∀ y ∈ (liveI ns).take j, y < ig (liveI ns) j := fun y hy => by
        obtain ⟨i, hi, rfl⟩ := List.mem_iff_getElem.1 hy
        rw [List.length_take] at hi
        rw [List.getElem_take, ig, List.getD_eq_getElem?_getD, List.getElem?_eq_getElem hjl]
        exact List.pairwise_iff_getElem.1 (lv_sorted ns) i j (by omega) hjl (by omega)
      intro q
      rw [List.mem_append, List.mem_singleton] at q
      by_cases e : ig (liveI ns) j == (slotJ ns j : Int)
      · rw [if_pos e] at q
        rw [beq_iff_eq] at e
        rcases q with q | q
        · have := hlt _ q; omega
        · omega
      · rw [if_neg e] at q
        rw [beq_iff_eq] at e
        rcases q with q | q
        · exact ih (by omega) q
        · exact e q.symm
  have h1 := key _ (Nat.le_refl _)
  rwa [List.take_length] at h1
theorem live_ltP {ns : List ND} (h : 1 ≤ ns.length) : (liveI ns).length + 1 ≤ ns.length := by
  have h1 := nodup_le ns.length ((0 : Int) :: liveI ns) (List.nodup_cons.2 ⟨fun q => (by have := mem_liveI.1 q; rw [th0] at this; cases this), nodup_liveI ns⟩) fun x hx => by
    rcases List.mem_cons.1 hx with rfl | hx
    · exact ⟨0, by omega, rfl⟩
    · obtain ⟨k, rfl, hk⟩ := thB_nat_iff.1 (mem_liveI.1 hx)
      exact ⟨k, (thN_iff.1 hk).2.1, rfl⟩
  rwa [List.length_cons] at h1
theorem slot_leP {ns : List ND} (h : 1 ≤ ns.length) : 1 ≤ slotI ns ∧ slotI ns ≤ ns.length ∧ slotI ns ≤ (liveI ns).length + 1 := by
  have h1 := slotJ_le ns (liveI ns).length
  have h2 := live_ltP h
  unfold slotI
  omega
/-- A plane with a node more, node by node. -/
theorem put_at {ns : List ND} {links : Int} {l : List Int} (h : Rp ns links l) (d : ND) (x : Int) (hx : 0 ≤ x) :
    nI (putSt ns (slotI ns) d) x = if x = slotI ns then d else if x = 0 then { nI ns 0 with next := slotI ns, prev := if (nI ns 0).next = 0 then (slotI ns : Int) else (nI ns 0).prev } else if x = (nI ns 0).next then { nI ns x with prev := slotI ns } else nI ns x := by
  obtain ⟨s1, s2, s3⟩ := slot_leP h.pos
  have hf := slot_free ns
  have hP := (h.pl 0 (.inl rfl)).1
  have hh0 := hP.nn
  obtain ⟨g1, g2, _⟩ := len_grow ns s2
  have hhl : (nI ns 0).next.toNat < ns.length := by
    rcases hP with q | q
    · rw [q]; show 0 < _; have := h.pos; omega
    · have := th_iff.1 q; omega
  have hhs : (nI ns 0).next ≠ slotI ns := fun e => by
    rcases hP with q | q
    · omega
    · rw [e] at q; exact hf (mem_liveI.2 q)
  obtain ⟨hd, hhd⟩ : ∃ q, (nI ns 0).next = q := ⟨_, rfl⟩
  have h00 : (nAt ns 0).next = hd := hhd
  rw [hhd] at hhl hhs hh0
  unfold putSt linkN
  rw [h00, hhd]
  unfold nI
  simp only [nAt_set, nAt_grow, List.length_set, Int.toNat_zero]
  obtain ⟨k, rfl⟩ : ∃ k : Nat, x = k := ⟨x.toNat, by omega⟩
  obtain ⟨m, rfl⟩ : ∃ m : Nat, hd = m := ⟨hd.toNat, by omega⟩
  simp only [Int.toNat_natCast] at hhl ⊢
  have e1 : ((k : Int) = (slotI ns : Int)) ↔ k = slotI ns := by omega
  have e2 : ((k : Int) = 0) ↔ k = 0 := by omega
  have e3 : ((k : Int) = (m : Int)) ↔ k = m := by omega
  have e4 : ((m : Int) = 0) ↔ m = 0 := by omega
  have hms : m ≠ slotI ns := by omega
  simp only [e1, e2, e3, e4]
  have q1 : slotI ns < (growN ns (slotI ns)).length := g1
  have q2 : m < (growN ns (slotI ns)).length := by omega
  have q3 : 0 < (growN ns (slotI ns)).length := by omega
  have hs0 : slotI ns ≠ 0 := by omega
  by_cases c1 : k = slotI ns
  · subst c1
    simp [hs0, Ne.symm hms, q1]
  · by_cases c2 : k = 0
    · subst c2
      by_cases c3 : m = 0
      · subst c3; simp [q3, Ne.symm hs0]
      · simp [q3, Ne.symm hs0, c3, Ne.symm c3]
    · by_cases c3 : k = m
      · subst c3; simp [c1, c2, q2]
      · simp [c1, c2, c3]
theorem putW_ok {ns : List ND} {links en tp level id : Int} (h : putW ns links en tp level id = 0) : chkB ns links en tp = true ∧ 0 ≤ level ∧ level ≤ 7 ∧ hasId ns id = false ∧ (liveI ns).length ≠ 4096 := by
  unfold putW at h
  split at h
  · rename_i h1
    split at h
    · cases h
    · rename_i h2
      split at h
      · cases h
      · rename_i h3
        split at h
        · cases h
        · rename_i h4
          exact ⟨h1, by omega, by omega, by simpa using h3, h4⟩
  · cases h
theorem lx_put (id : Int) (vn : Nat) (vxs : List Int) (tags level nx : Int) (k : Nat) : (lsAt (⟨id, ⟨none, vn, vn, vxs⟩, tags, level, none, level.toNat + 1, level.toNat + 1, List.replicate (level.toNat + 1) ⟨none, 0, 0, []⟩, nx, 0⟩ : ND) k).xs = [] := by
  unfold lsAt
  rw [List.getD_eq_getElem?_getD, List.getElem?_replicate]
  split <;> rfl
section
variable {ns : List ND} {links : Int} {l : List Int}
theorem put_len (h : Rp ns links l) (d : ND) : ns.length ≤ (putSt ns (slotI ns) d).length ∧ ((putSt ns (slotI ns) d).length = ns.length ∨ ((putSt ns (slotI ns) d).length = ns.length + 1 ∧ slotI ns = ns.length)) ∧ slotI ns < (putSt ns (slotI ns) d).length := by
  have e : (putSt ns (slotI ns) d).length = (growN ns (slotI ns)).length := by unfold putSt linkN; simp only [List.length_set]
  obtain ⟨g1, g2, g3⟩ := len_grow ns (slot_leP h.pos).2.1
  rw [e]; exact ⟨g2, g3, g1⟩
theorem put_there (h : Rp ns links l) (id : Int) (vn : Nat) (vxs : List Int) (tags level : Int) (x : Int) : thB (putSt ns (slotI ns) (putND ns id vn vxs tags level)) x = true ↔ thB ns x = true ∨ x = slotI ns := by
  have hat := fun x hx => put_at h (putND ns id vn vxs tags level) x hx
  obtain ⟨p1, p2, p3⟩ := put_len h (putND ns id vn vxs tags level)
  obtain ⟨s1, s2, s3⟩ := slot_leP h.pos
  generalize putSt ns (slotI ns) (putND ns id vn vxs tags level) = N at *
  have hh := (h.pl 0 (.inl rfl)).1.nn
  rw [th_iff]
  by_cases c1 : x = slotI ns
  · subst c1
    have e := hat (slotI ns) (by omega)
    rw [if_pos rfl] at e
    refine ⟨fun _ => .inr rfl, fun _ => ⟨by omega, by omega, ?_⟩⟩
    rw [e]
    exact hh
  · rw [th_iff]
    constructor
    · rintro ⟨q1, q2, q3⟩
      have e := hat x (by omega)
      rw [if_neg c1, if_neg (by omega)] at e
      refine .inl ⟨q1, by omega, ?_⟩
      rw [e] at q3
      split at q3 <;> exact q3
    · rintro (⟨q1, q2, q3⟩ | q)
      · have e := hat x (by omega)
        rw [if_neg c1, if_neg (by omega)] at e
        refine ⟨q1, by omega, ?_⟩
        rw [e]
        split <;> exact q3
      · exact absurd q c1
theorem Rp.put (h : Rp ns links l) {en tp level id : Int} (hw : putW ns links en tp level id = 0) (vn : Nat) (vxs : List Int) (tags : Int) : Rp (putSt ns (slotI ns) (putND ns id vn vxs tags level)) links ((slotI ns : Int) :: l) := by
  obtain ⟨_, hl0, hl7, hid, h4096⟩ := putW_ok hw
  have hat := fun x hx => put_at h (putND ns id vn vxs tags level) x hx
  obtain ⟨p1, p2, p3⟩ := put_len h (putND ns id vn vxs tags level)
  have hth := put_there h id vn vxs tags level
  obtain ⟨s1, s2, s3⟩ := slot_leP h.pos
  have hfree : thB ns (slotI ns : Int) = false := by
    cases e : thB ns (slotI ns : Int) with
    | false => rfl
    | true => exact absurd (mem_liveI.2 e) (slot_free ns)
  have hllt := live_ltP h.pos
  generalize putSt ns (slotI ns) (putND ns id vn vxs tags level) = N at *
  obtain ⟨s, hs⟩ : ∃ s : Int, (slotI ns : Int) = s := ⟨_, rfl⟩
  rw [hs] at hat hth hfree ⊢
  have hs1 : 1 ≤ s := by omega
  have hP0 := h.pl 0 (.inl rfl)
  obtain ⟨hd, hhd⟩ : ∃ q, (nI ns 0).next = q := ⟨_, rfl⟩
  rw [hhd] at hat hP0
  have hd0 := hP0.1.nn
  have es : nI N s = putND ns id vn vxs tags level := by rw [hat s (by omega), if_pos rfl]
  have esn : (nI N s).next = hd := by rw [es]; exact hhd
  have esp : (nI N s).prev = 0 := by rw [es]; rfl
  have e0 := hat 0 (Int.le_refl _)
  rw [if_neg (by omega), if_pos rfl] at e0
  have eo : ∀ x, 1 ≤ x → x ≠ s → nI N x = if x = hd then { nI ns x with prev := s } else nI ns x := fun x h1 h2 => by rw [hat x (by omega), if_neg h2, if_neg (by omega)]
  -- what stays of a node
  have ek : ∀ x, 1 ≤ x → x ≠ s → (nI N x).next = (nI ns x).next ∧ (nI N x).level = (nI ns x).level ∧ (nI N x).ln = (nI ns x).ln ∧ (nI N x).ls = (nI ns x).ls ∧ (nI N x).id = (nI ns x).id := fun x h1 h2 => by
    rw [eo x h1 h2]; split <;> exact ⟨rfl, rfl, rfl, rfl, rfl⟩
  have eth : ∀ x, thB ns x = true → 1 ≤ x ∧ x ≠ s := fun x hx => ⟨(th_iff.1 hx).1, fun e => by rw [e, hfree] at hx; cases hx⟩
  have elx : ∀ x k, 1 ≤ x → x ≠ s → lx N x k = lx ns x k := fun x k h1 h2 => by unfold lx lsAt; rw [(ek x h1 h2).2.2.2.1]
  have hPl : ∀ x, Pl ns x → Pl N x := fun x hx => hx.imp (fun e => e) fun q => (hth x).2 (.inl q)
  have hsPl : Pl N s := .inr ((hth s).2 (.inr rfl))
  refine ⟨by have := h.pos; omega, ?_, fun k hk => ?_, fun x hx => ?_, fun x h1 h2 h3 => ?_, fun x hx => ?_, fun x k hx hk => ?_, fun x y hx hy he => ?_, ⟨?_, (hth s).2 (.inr rfl), ?_⟩, List.nodup_cons.2 ⟨fun q => ?_, h.nd⟩, fun x hx => ?_⟩
  · have h1 := h.le
    rcases p2 with q | ⟨q, q2⟩
    · omega
    · have h3 : ns.length ≠ 4097 := fun e => by omega
      omega
  · by_cases c : (k : Int) = s
    · have e := es
      rw [← c] at e
      unfold nI at e
      rw [Int.toNat_natCast] at e
      rw [e]
      unfold putND
      simp
    · have hkn : k < ns.length := by omega
      have h1 := h.hln k hkn
      rcases Nat.eq_zero_or_pos k with rfl | q
      · have e := e0
        unfold nI at e
        rw [Int.toNat_zero] at e
        rw [e]; exact h1
      · have e := ek (k : Int) (by omega) c
        unfold nI at e
        rw [Int.toNat_natCast] at e
        rw [e.2.2.2.1, e.2.2.1]; exact h1
  · rcases hx with rfl | hx
    · rw [e0]
      refine ⟨hsPl, ?_, esp⟩
      show Pl N (if hd = 0 then s else (nI ns 0).prev)
      split
      · exact hsPl
      · exact hPl _ hP0.2.1
    · rcases (hth x).1 hx with q | rfl
      · obtain ⟨x1, x2⟩ := eth x q
        obtain ⟨q1, q2, q3⟩ := h.pl x (.inr q)
        obtain ⟨en, _⟩ := ek x x1 x2
        rw [en]
        refine ⟨hPl _ q1, ?_, ?_⟩
        · rw [eo x x1 x2]
          split
          · exact hsPl
          · exact hPl _ q2
        · rcases q1 with c | c
          · rw [c] at q3 ⊢
            rw [e0]
            show (if hd = 0 then s else (nI ns 0).prev) = x
            rw [if_neg (fun e => by rw [e, q3] at hP0; omega)]
            exact q3
          · obtain ⟨y1, y2⟩ := eth _ c
            rw [eo _ y1 y2, if_neg (fun e => by rw [e] at q3; have := hP0.2.2; omega)]
            exact q3
      · rw [esn, esp]
        refine ⟨hPl _ hP0.1, .inl rfl, ?_⟩
        rcases hP0.1 with c | c
        · rw [c, e0]
          show (if hd = 0 then x else (nI ns 0).prev) = x
          rw [if_pos c]
        · obtain ⟨y1, y2⟩ := eth _ c
          rw [eo _ y1 y2, if_pos rfl]
  · have hxs : x ≠ s := fun e => by rw [(hth x).2 (.inr e)] at h3; cases h3
    have hxn : thB ns x = false := by
      cases e : thB ns x with
      | false => rfl
      | true => rw [(hth x).2 (.inl e)] at h3; cases h3
    rw [eo x h1 hxs, if_neg (fun e => by
      rcases hP0.1 with c | c
      · omega
      · rw [← e, hxn] at c; cases c)]
    exact h.bare x h1 (by omega) hxn
  · rcases (hth x).1 hx with q | rfl
    · obtain ⟨x1, x2⟩ := eth x q
      obtain ⟨_, e2, e3, _⟩ := ek x x1 x2
      have := h.shape x q
      unfold shapeB at this ⊢
      rw [e2, e3]; exact this
    · rw [es]
      unfold shapeB putND
      simp only [Bool.and_eq_true, Bool.not_eq_true', decide_eq_false_iff_not, bne_eq_false_iff_eq]
      omega
  · rcases (hth x).1 hx with q | rfl
    · obtain ⟨x1, x2⟩ := eth x q
      obtain ⟨_, _, e3, _⟩ := ek x x1 x2
      rw [e3] at hk
      obtain ⟨q1, q2, q3⟩ := h.ls x k q hk
      rw [elx x k x1 x2]
      refine ⟨q1, q2, fun y hy => ?_⟩
      obtain ⟨r1, r2, r3, r4⟩ := q3 y hy
      obtain ⟨y1, y2⟩ := eth y r1
      refine ⟨(hth y).2 (.inl r1), r2, by rw [(ek y y1 y2).2.2.1]; exact r3, by rw [elx y k y1 y2]; exact r4⟩
    · have e : lx N x k = [] := by unfold lx; rw [es]; exact lx_put _ _ _ _ _ _ _
      rw [e]
      refine ⟨List.nodup_nil, ?_, fun y hy => by cases hy⟩
      have := (mostE_bd links k).1
      simp; omega
  · have hno : ∀ y, thB ns y = true → (nI ns y).id ≠ id := fun y hy e => by
      unfold hasId at hid
      rw [List.any_eq_false] at hid
      exact hid y (mem_liveI.2 hy) (by unfold idI; rw [beq_iff_eq]; exact e)
    have eid : (nI N s).id = id := by rw [es]; rfl
    rcases (hth x).1 hx with q | rfl <;> rcases (hth y).1 hy with r | r
    · obtain ⟨x1, x2⟩ := eth x q
      obtain ⟨y1, y2⟩ := eth y r
      rw [(ek x x1 x2).2.2.2.2, (ek y y1 y2).2.2.2.2] at he
      exact h.ids x y q r he
    · subst r
      obtain ⟨x1, x2⟩ := eth x q
      rw [(ek x x1 x2).2.2.2.2, eid] at he
      exact absurd he (hno x q)
    · obtain ⟨y1, y2⟩ := eth y r
      rw [(ek y y1 y2).2.2.2.2, eid] at he
      exact absurd he.symm (hno y r)
    · exact r.symm
  · rw [e0]
  · rw [esn]
    have hc := h.ch
    rw [hhd] at hc
    exact hc.congr fun x hx => by
      have ht := h.ch.mem x hx
      obtain ⟨x1, x2⟩ := eth x ht
      exact ⟨(hth x).2 (.inl ht), (ek x x1 x2).1⟩
  · have := h.ch.mem s q
    rw [hfree] at this; cases this
  · rcases (hth x).1 hx with q | rfl
    · exact List.mem_cons_of_mem _ (h.all x q)
    · exact List.mem_cons_self
end
/-- Alike but for the lists. -/
def Sm (N ns : List ND) : Prop := N.length = ns.length ∧ ∀ j, (nAt N j).next = (nAt ns j).next ∧ (nAt N j).prev = (nAt ns j).prev ∧ (nAt N j).level = (nAt ns j).level ∧ (nAt N j).ln = (nAt ns j).ln ∧ (nAt N j).id = (nAt ns j).id ∧ (nAt N j).ls.length = (nAt ns j).ls.length
theorem Sm.refl (ns : List ND) : Sm ns ns := ⟨rfl, fun _ => ⟨rfl, rfl, rfl, rfl, rfl, rfl⟩⟩
theorem Sm.trans {a b c : List ND} (h : Sm a b) (h' : Sm b c) : Sm a c := ⟨h.1.trans h'.1, fun j => by
  obtain ⟨p1, p2, p3, p4, p5, p6⟩ := h.2 j
  obtain ⟨q1, q2, q3, q4, q5, q6⟩ := h'.2 j
  exact ⟨p1.trans q1, p2.trans q2, p3.trans q3, p4.trans q4, p5.trans q5, p6.trans q6⟩⟩
theorem lsSet_at (l : List ND) (i k : Nat) (xs : List Int) (j : Nat) : nAt (lsSet l i k xs) j = if j = i ∧ i < l.length then { nAt l i with ls := (nAt l i).ls.set k ⟨none, xs.length, xs.length, xs⟩ } else nAt l j := nAt_set _ _ _ _
theorem lsSet_sm (l : List ND) (i k : Nat) (xs : List Int) : Sm (lsSet l i k xs) l := by
  refine ⟨lsSet_len _ _ _ _, fun j => ?_⟩
  rw [lsSet_at]
  split
  · rename_i h
    obtain ⟨rfl, _⟩ := h
    exact ⟨rfl, rfl, rfl, rfl, rfl, by simp⟩
  · exact ⟨rfl, rfl, rfl, rfl, rfl, rfl⟩
theorem lsSet_xs (l : List ND) (i k : Nat) (xs : List Int) (j m : Nat) : (lsAt (nAt (lsSet l i k xs) j) m).xs = if j = i ∧ m = k ∧ i < l.length ∧ k < (nAt l i).ls.length then xs else (lsAt (nAt l j) m).xs := by
  rw [lsSet_at]
  by_cases h : j = i ∧ i < l.length
  · obtain ⟨rfl, h2⟩ := h
    rw [if_pos ⟨rfl, h2⟩]
    unfold lsAt
    show (((nAt l j).ls.set k ⟨none, xs.length, xs.length, xs⟩).getD m ⟨none, 0, 0, []⟩).xs = _
    rw [List.getD_eq_getElem?_getD, List.getElem?_set]
    by_cases hk : k = m
    · subst hk
      by_cases h3 : k < (nAt l j).ls.length
      · rw [if_pos rfl, if_pos h3, if_pos ⟨rfl, rfl, h2, h3⟩]; rfl
      · rw [if_pos rfl, if_neg h3, if_neg (fun q => h3 q.2.2.2), List.getD_eq_getElem?_getD, List.getElem?_eq_none (by omega)]
    · rw [if_neg hk, if_neg (fun q => hk q.2.1.symm), List.getD_eq_getElem?_getD]
  · rw [if_neg h, if_neg (fun q => h ⟨q.1, q.2.2.1⟩)]
section
variable {ns N : List ND} {links : Int} {l : List Int}
theorem Sm.there (h : Sm N ns) (x : Int) : thB N x = thB ns x := by
  rw [Bool.eq_iff_iff, th_iff, th_iff, h.1]
  unfold nI
  rw [(h.2 x.toNat).1]
theorem Rp.lists (h : Rp ns links l) (hs : Sm N ns) (hl : ∀ (x : Int) (k : Nat), thB ns x = true → k < (nI ns x).ln → (lx N x k).Nodup ∧ ((lx N x k).length : Int) ≤ mostE links k ∧ ∀ y ∈ lx N x k, thB ns y = true ∧ y ≠ x ∧ k < (nI ns y).ln ∧ x ∈ lx N y k) : Rp N links l := by
  have hth := hs.there
  have hn : ∀ x : Int, (nI N x).next = (nI ns x).next := fun x => (hs.2 x.toNat).1
  have hp : ∀ x : Int, (nI N x).prev = (nI ns x).prev := fun x => (hs.2 x.toNat).2.1
  have hv : ∀ x : Int, (nI N x).level = (nI ns x).level := fun x => (hs.2 x.toNat).2.2.1
  have hk : ∀ x : Int, (nI N x).ln = (nI ns x).ln := fun x => (hs.2 x.toNat).2.2.2.1
  have hi : ∀ x : Int, (nI N x).id = (nI ns x).id := fun x => (hs.2 x.toNat).2.2.2.2.1
  have hPl : ∀ x, Pl N x ↔ Pl ns x := fun x => by unfold Pl; rw [hth]
  refine ⟨by rw [hs.1]; exact h.pos, by rw [hs.1]; exact h.le, fun k hk' => ?_, fun x hx => ?_, fun x h1 h2 h3 => ?_, fun x hx => ?_, fun x k hx hk' => ?_, fun x y hx hy he => ?_, ?_, h.nd, fun x hx => ?_⟩
  · rw [(hs.2 k).2.2.2.2.2, (hs.2 k).2.2.2.1]
    exact h.hln k (by rw [← hs.1]; exact hk')
  · rw [hn, hp, hp, hPl, hPl]
    exact h.pl x ((hPl x).1 hx)
  · have := h.bare x h1 (by rw [← hs.1]; exact h2) (by rw [← hth]; exact h3)
    unfold bareB at this ⊢
    rw [hn, hp, hv, hk]; exact this
  · have := h.shape x (by rw [← hth]; exact hx)
    unfold shapeB at this ⊢
    rw [hv, hk]; exact this
  · rw [hth] at hx
    rw [hk] at hk'
    obtain ⟨q1, q2, q3⟩ := hl x k hx hk'
    refine ⟨q1, q2, fun y hy => ?_⟩
    rw [hth, hk]
    exact q3 y hy
  · rw [hth] at hx hy
    rw [hi, hi] at he
    exact h.ids x y hx hy he
  · rw [hn]
    exact h.ch.congr fun x hx => ⟨by rw [hth]; exact h.ch.mem x hx, hn x⟩
  · rw [hth] at hx; exact h.all x hx
theorem linkB_ok {en tp a b level : Int} (h : linkB ns links en tp a b level = true) : thB ns a = true ∧ thB ns b = true ∧ a ≠ b ∧ 0 ≤ level ∧ level ≤ (nI ns a).level ∧ level ≤ (nI ns b).level ∧ b ∉ lx ns a level.toNat ∧ ((lx ns a level.toNat).length : Int) < mostE links level ∧ ((lx ns b level.toNat).length : Int) < mostE links level := by
  unfold linkB at h
  simp only [Bool.and_eq_true, Bool.not_eq_true', decide_eq_false_iff_not, beq_eq_false_iff_ne] at h
  obtain ⟨⟨⟨⟨⟨⟨⟨_, h2⟩, h3⟩, h4⟩, h5⟩, h6⟩, h7⟩, h8⟩ := h
  refine ⟨h2, h3, h4, by omega, ?_, ?_, fun q => ?_, ?_, ?_⟩
  · unfold nI; omega
  · unfold nI; omega
  · have : hasI (lx ns a level.toNat) b = true := hasI_iff.2 q
    unfold lx nI at this
    rw [this] at h7; cases h7
  · unfold lx nI; omega
  · unfold lx nI; omega
theorem Rp.link (h : Rp ns links l) {en tp a b level : Int} (hb : linkB ns links en tp a b level = true) : Rp (linkSt ns a.toNat b.toNat level.toNat) links l ∧ b ∈ lx (linkSt ns a.toNat b.toNat level.toNat) a level.toNat ∧ Sm (linkSt ns a.toNat b.toNat level.toNat) ns := by
  obtain ⟨ha, hb', hab, hl0, hla, hlb, hno, hma, hmb⟩ := linkB_ok hb
  obtain ⟨a1, a2, _⟩ := th_iff.1 ha
  obtain ⟨b1, b2, _⟩ := th_iff.1 hb'
  have hsa := shape_iff (h.shape a ha)
  have hsb := shape_iff (h.shape b hb')
  obtain ⟨k, hk⟩ : ∃ k : Nat, level.toNat = k := ⟨_, rfl⟩
  have hlk : level = k := by omega
  subst hlk
  rw [Int.toNat_natCast] at hno hma hmb ⊢
  have hka : k < (nI ns a).ln := by omega
  have hkb : k < (nI ns b).ln := by omega
  have hnb : a ∉ lx ns b k := fun q => hno ((h.ls b k hb' hkb).2.2 a q).2.2.2
  have hwa : withI (lx ns a k) b = lx ns a k ++ [b] := by
    unfold withI
    rw [if_neg (by rw [hasI_iff]; exact hno)]
  have hwb : withI (lx ns b k) a = lx ns b k ++ [a] := by
    unfold withI
    rw [if_neg (by rw [hasI_iff]; exact hnb)]
  have hsm : Sm (linkSt ns a.toNat b.toNat k) ns := (lsSet_sm _ _ _ _).trans (lsSet_sm _ _ _ _)
  have hxs : ∀ (x : Int) (m : Nat), 0 ≤ x → lx (linkSt ns a.toNat b.toNat k) x m = if x = b ∧ m = k then lx ns b k ++ [a] else if x = a ∧ m = k then lx ns a k ++ [b] else lx ns x m := fun x m hx => by
    have e1 : (lsAt (nAt ns b.toNat) k).xs = lx ns b k := rfl
    have e2 : (lsAt (nAt ns a.toNat) k).xs = lx ns a k := rfl
    have hal := h.hln a.toNat (by omega)
    have hbl := h.hln b.toNat (by omega)
    have hka' : k < (nAt ns a.toNat).ln := hka
    have hkb' : k < (nAt ns b.toNat).ln := hkb
    have e3 : ((b.toNat : Nat) : Int) = b := by omega
    have e4 : ((a.toNat : Nat) : Int) = a := by omega
    unfold lx linkSt nI
    rw [lsSet_xs, lsSet_xs, lsSet_len, ((lsSet_sm ns a.toNat k _).2 b.toNat).2.2.2.2.2, e1, e2, e3, e4, hwa, hwb]
    by_cases c1 : x = b ∧ m = k
    · rw [if_pos c1, if_pos ⟨by rw [c1.1], c1.2, by omega, by omega⟩]
    · rw [if_neg c1, if_neg (fun q => c1 ⟨by omega, q.2.1⟩)]
      by_cases c2 : x = a ∧ m = k
      · rw [if_pos c2, if_pos ⟨by rw [c2.1], c2.2, by omega, by omega⟩]
      · rw [if_neg c2, if_neg (fun q => c2 ⟨by omega, q.2.1⟩)]
  have hsub : ∀ (x : Int) (m : Nat), 0 ≤ x → ∀ y ∈ lx ns x m, y ∈ lx (linkSt ns a.toNat b.toNat k) x m := fun x m hx y hy => by
    rw [hxs x m hx]
    split
    · rename_i c
      rw [c.1, c.2] at hy
      exact List.mem_append_left _ hy
    · split
      · rename_i c
        rw [c.1, c.2] at hy
        exact List.mem_append_left _ hy
      · exact hy
  have hA : lx (linkSt ns a.toNat b.toNat k) a k = lx ns a k ++ [b] := by rw [hxs a k (by omega), if_neg (fun q => hab q.1), if_pos ⟨rfl, rfl⟩]
  have hB : lx (linkSt ns a.toNat b.toNat k) b k = lx ns b k ++ [a] := by rw [hxs b k (by omega), if_pos ⟨rfl, rfl⟩]
  refine ⟨h.lists hsm fun x m hx hm => ?_, by rw [hA]; simp, hsm⟩
  have hx0 : 0 ≤ x := by have := (th_iff.1 hx).1; omega
  obtain ⟨q1, q2, q3⟩ := h.ls x m hx hm
  by_cases c1 : x = b ∧ m = k
  · obtain ⟨rfl, rfl⟩ := c1
    rw [hB]
    refine ⟨List.nodup_append.2 ⟨q1, by simp, fun p hp r hr e => ?_⟩, by rw [List.length_append, List.length_singleton]; omega, fun y hy => ?_⟩
    · rw [List.mem_singleton] at hr
      subst hr; subst e
      exact hnb hp
    · rcases List.mem_append.1 hy with q | q
      · obtain ⟨r1, r2, r3, r4⟩ := q3 y q
        exact ⟨r1, r2, r3, hsub y m (by have := (th_iff.1 r1).1; omega) _ r4⟩
      · rw [List.mem_singleton] at q
        subst q
        exact ⟨ha, hab, hka, by rw [hA]; simp⟩
  · by_cases c2 : x = a ∧ m = k
    · obtain ⟨rfl, rfl⟩ := c2
      rw [hA]
      refine ⟨List.nodup_append.2 ⟨q1, by simp, fun p hp r hr e => ?_⟩, by rw [List.length_append, List.length_singleton]; omega, fun y hy => ?_⟩
      · rw [List.mem_singleton] at hr
        subst hr; subst e
        exact hno hp
      · rcases List.mem_append.1 hy with q | q
        · obtain ⟨r1, r2, r3, r4⟩ := q3 y q
          exact ⟨r1, r2, r3, hsub y m (by have := (th_iff.1 r1).1; omega) _ r4⟩
        · rw [List.mem_singleton] at q
          subst q
          exact ⟨hb', fun e => hab e.symm, hkb, by rw [hB]; simp⟩
    · have e := hxs x m hx0
      rw [if_neg c1, if_neg c2] at e
      rw [e]
      refine ⟨q1, q2, fun y hy => ?_⟩
      obtain ⟨r1, r2, r3, r4⟩ := q3 y hy
      exact ⟨r1, r2, r3, hsub y m (by have := (th_iff.1 r1).1; omega) _ r4⟩
/-- The lists of a plane whose node 'slot' goes. -/
theorem foldX_sm (slot k : Nat) : ∀ (xs : List Int) (P : List ND), Sm (xs.foldl (dropX slot k) P) P
  | [], P => Sm.refl P
  | x :: xs, P => by rw [List.foldl_cons]; exact (foldX_sm slot k xs _).trans (lsSet_sm _ _ _ _)
theorem without_without (xs : List Int) (v : Int) : withoutI (withoutI xs v) v = withoutI xs v := by unfold withoutI; rw [List.filter_filter]; simp
theorem foldX_xs (slot k : Nat) : ∀ (xs : List Int) (P : List ND) (j m : Nat), (∀ x ∈ xs, 0 ≤ x ∧ x.toNat < P.length ∧ k < (nAt P x.toNat).ls.length) → (lsAt (nAt (xs.foldl (dropX slot k) P) j) m).xs = if m = k ∧ (j : Int) ∈ xs then withoutI (lsAt (nAt P j) k).xs slot else (lsAt (nAt P j) m).xs
  | [], P, j, m, _ => by rw [if_neg (fun q => by cases q.2)]; rfl
  | x :: xs, P, j, m, h => by
    have hs := lsSet_sm P x.toNat k (withoutI (lsAt (nAt P x.toNat) k).xs slot)
    obtain ⟨x0, x1, x2⟩ := h x List.mem_cons_self
    rw [List.foldl_cons, foldX_xs slot k xs _ j m (fun y hy => by
      obtain ⟨y0, y1, y2⟩ := h y (List.mem_cons_of_mem _ hy)
      refine ⟨y0, ?_, ?_⟩
      · unfold dropX; rw [hs.1]; exact y1
      · unfold dropX; rw [(hs.2 _).2.2.2.2.2]; exact y2)]
    unfold dropX
    rw [lsSet_xs, lsSet_xs]
    by_cases hm : m = k
    · subst hm
      by_cases hj : j = x.toNat
      · have e : (j : Int) = x := by omega
        rw [if_pos (⟨hj, rfl, x1, x2⟩ : j = x.toNat ∧ m = m ∧ x.toNat < P.length ∧ m < (nAt P x.toNat).ls.length), if_pos (⟨rfl, by rw [e]; exact List.mem_cons_self⟩ : m = m ∧ (j : Int) ∈ x :: xs), ← hj, without_without]
        split <;> rfl
      · have e : (j : Int) ≠ x := by omega
        rw [if_neg (fun q : j = x.toNat ∧ m = m ∧ x.toNat < P.length ∧ m < (nAt P x.toNat).ls.length => hj q.1)]
        by_cases hx : (j : Int) ∈ xs
        · rw [if_pos ⟨rfl, hx⟩, if_pos ⟨rfl, List.mem_cons_of_mem _ hx⟩]
        · rw [if_neg (fun q => hx q.2), if_neg (fun q => (List.mem_cons.1 q.2).elim e hx)]
    · rw [if_neg (fun q => hm q.1), if_neg (fun q => hm q.2.1), if_neg (fun q => hm q.1)]
theorem dropL_sm (slot : Nat) (d : ND) (P : List ND) : ∀ m, Sm (dropL slot d P m) P
  | 0 => Sm.refl P
  | m + 1 => by rw [dropL_succ]; exact (foldX_sm slot m _ _).trans (dropL_sm slot d P m)
theorem dropL_xs (slot : Nat) (d : ND) (P : List ND) (j i : Nat) : ∀ m, (∀ k, k < m → ∀ x ∈ (lsAt d k).xs, 0 ≤ x ∧ x.toNat < P.length ∧ k < (nAt P x.toNat).ls.length) → (lsAt (nAt (dropL slot d P m) j) i).xs = if i < m ∧ (j : Int) ∈ (lsAt d i).xs then withoutI (lsAt (nAt P j) i).xs slot else (lsAt (nAt P j) i).xs
  | 0, _ => by rw [if_neg (fun q => absurd q.1 (Nat.not_lt_zero _))]; rfl
  | m + 1, h => by
    have hs := dropL_sm slot d P m
    rw [dropL_succ]
    unfold dropK
    rw [foldX_xs slot m _ _ j i (fun x hx => by
      obtain ⟨x0, x1, x2⟩ := h m (Nat.lt_succ_self _) x hx
      exact ⟨x0, by rw [hs.1]; exact x1, by rw [(hs.2 _).2.2.2.2.2]; exact x2⟩)]
    have ih := fun i => dropL_xs slot d P j i m fun k hk => h k (by omega)
    by_cases hi : i = m
    · subst hi
      rw [ih i, if_neg (fun q : i < i ∧ _ => absurd q.1 (Nat.lt_irrefl _))]
      by_cases hx : (j : Int) ∈ (lsAt d i).xs
      · rw [if_pos ⟨rfl, hx⟩, if_pos ⟨Nat.lt_succ_self _, hx⟩]
      · rw [if_neg (fun q => hx q.2), if_neg (fun q => hx q.2)]
    · rw [if_neg (fun q => hi q.1), ih i]
      by_cases hx : i < m ∧ (j : Int) ∈ (lsAt d i).xs
      · rw [if_pos hx, if_pos ⟨by omega, hx.2⟩]
      · rw [if_neg hx, if_neg (fun q => hx ⟨by omega, q.2⟩)]
end
section
variable {ns N : List ND} {links : Int} {l : List Int}
theorem without_id {xs : List Int} {v : Int} (h : v ∉ xs) : withoutI xs v = xs := by
  unfold withoutI
  exact List.filter_eq_self.2 fun x hx => by
    rw [Bool.not_eq_true', beq_eq_false_iff_ne]
    rintro rfl
    exact h hx
theorem mem_without {xs : List Int} {v x : Int} : x ∈ withoutI xs v ↔ x ∈ xs ∧ x ≠ v := by
  unfold withoutI
  rw [List.mem_filter, Bool.not_eq_true', beq_eq_false_iff_ne]
/-- A plane without the node s: what its nodes are. -/
structure Gone (ns N : List ND) (s : Int) : Prop where
  len : N.length = ns.length
  bare : nI N s = ndX
  next : ∀ x, 0 ≤ x → x ≠ s → (nI N x).next = if x = (nI ns s).prev then (nI ns s).next else (nI ns x).next
  prev : ∀ x, 0 ≤ x → x ≠ s → (nI N x).prev = if x = (nI ns s).next then (nI ns s).prev else (nI ns x).prev
  keep : ∀ x, 0 ≤ x → x ≠ s → (nI N x).level = (nI ns x).level ∧ (nI N x).ln = (nI ns x).ln ∧ (nI N x).id = (nI ns x).id ∧ (nI N x).ls.length = (nI ns x).ls.length
  list : ∀ x k, thB ns x = true → x ≠ s → k < (nI ns x).ln → lx N x k = withoutI (lx ns x k) s
theorem unl_at (ns : List ND) (p q j : Nat) (hp : p < ns.length) (hq : q < ns.length) : (nAt (unlinkN ns p q) j).next = (if j = p then (q : Int) else (nAt ns j).next) ∧ (nAt (unlinkN ns p q) j).prev = (if j = q then (p : Int) else (nAt ns j).prev) ∧ (nAt (unlinkN ns p q) j).level = (nAt ns j).level ∧ (nAt (unlinkN ns p q) j).ln = (nAt ns j).ln ∧ (nAt (unlinkN ns p q) j).id = (nAt ns j).id ∧ (nAt (unlinkN ns p q) j).ls = (nAt ns j).ls := by
  unfold unlinkN
  simp only [nAt_set, List.length_set]
  by_cases c1 : j = q
  · subst c1
    by_cases c2 : j = p
    · subst c2; simp [hp]
    · simp [hq, c2]
  · by_cases c2 : j = p
    · subst c2; simp [c1, hp]
    · simp [c1, c2]
theorem Rp.gone (h : Rp ns links l) {s : Int} (hs : thB ns s = true) : Gone ns (dropSt ns s.toNat) s := by
  obtain ⟨s1, s2, _⟩ := th_iff.1 hs
  obtain ⟨hp1, hp2, hp3⟩ := h.pl s (.inr hs)
  have hnn := hp1.nn
  have hpn := hp2.nn
  have hlt : ∀ y, Pl ns y → y.toNat < ns.length := fun y hy => by
    rcases hy with rfl | q
    · exact h.pos
    · have := th_iff.1 q; omega
  have hnl := hlt _ hp1
  have hpl := hlt _ hp2
  have hU := unl_at ns (nI ns s).prev.toNat (nI ns s).next.toNat
  have hUl := unlink_len ns (nI ns s).prev.toNat (nI ns s).next.toNat
  have hD := dropL_sm s.toNat (nAt ns s.toNat) (unlinkN ns (nI ns s).prev.toNat (nI ns s).next.toNat) (nI ns s).ln
  have hX := fun j i => dropL_xs s.toNat (nAt ns s.toNat) (unlinkN ns (nI ns s).prev.toNat (nI ns s).next.toNat) j i (nI ns s).ln (fun k hk x hx => by
    obtain ⟨r1, _, r3, _⟩ := (h.ls s k hs hk).2.2 x hx
    have r4 := th_iff.1 r1
    have r5 := h.hln x.toNat (by omega)
    refine ⟨by omega, by rw [hUl]; omega, ?_⟩
    rw [(hU x.toNat hpl hnl).2.2.2.2.2, r5]
    exact r3)
  have hat : ∀ x : Int, 0 ≤ x → x ≠ s → nI (dropSt ns s.toNat) x = nI (dropL s.toNat (nAt ns s.toNat) (unlinkN ns (nI ns s).prev.toNat (nI ns s).next.toNat) (nI ns s).ln) x := fun x h1 h2 => by
    unfold dropSt
    show nAt (List.set _ _ _) x.toNat = _
    rw [nAt_set, if_neg (fun q => h2 (by omega))]; rfl
  refine ⟨?_, ?_, fun x h1 h2 => ?_, fun x h1 h2 => ?_, fun x h1 h2 => ?_, fun x k ht h2 hk => ?_⟩
  · unfold dropSt; rw [List.length_set]; exact hD.1.trans hUl
  · unfold dropSt nI
    have e := hD.1.trans hUl
    unfold nI at e
    rw [nAt_set, if_pos ⟨rfl, by rw [e]; omega⟩]
  · rw [hat x h1 h2]
    obtain ⟨u1, _⟩ := hU x.toNat hpl hnl
    unfold nI at hD u1 ⊢
    rw [(hD.2 x.toNat).1, u1]
    by_cases c : x = (nAt ns s.toNat).prev
    · rw [if_pos c, if_pos (by rw [c])]
      unfold nI at hnn; omega
    · rw [if_neg c, if_neg (fun q => c (by unfold nI at hpn; omega))]
  · rw [hat x h1 h2]
    obtain ⟨_, u1, _⟩ := hU x.toNat hpl hnl
    unfold nI at hD u1 ⊢
    rw [(hD.2 x.toNat).2.1, u1]
    by_cases c : x = (nAt ns s.toNat).next
    · rw [if_pos c, if_pos (by rw [c])]
      unfold nI at hpn; omega
    · rw [if_neg c, if_neg (fun q => c (by unfold nI at hnn; omega))]
  · rw [hat x h1 h2]
    obtain ⟨_, _, u3, u4, u5, u6⟩ := hU x.toNat hpl hnl
    unfold nI at hD u3 u4 u5 u6 ⊢
    obtain ⟨_, _, v3, v4, v5, v6⟩ := hD.2 x.toNat
    rw [v3, v4, v5, v6, u3, u4, u5, u6]
    exact ⟨rfl, rfl, rfl, rfl⟩
  · have hx1 := th_iff.1 ht
    have e1 : lx (dropSt ns s.toNat) x k = (lsAt (nAt (dropL s.toNat (nAt ns s.toNat) (unlinkN ns (nI ns s).prev.toNat (nI ns s).next.toNat) (nI ns s).ln) x.toNat) k).xs := by
      unfold lx; rw [hat x (by omega) h2]; rfl
    have e2 : (lsAt (nAt (unlinkN ns (nI ns s).prev.toNat (nI ns s).next.toNat) x.toNat) k).xs = lx ns x k := by
      unfold lx lsAt; rw [(hU x.toNat hpl hnl).2.2.2.2.2]; rfl
    have e3 : ((s.toNat : Nat) : Int) = s := by omega
    have e4 : ((x.toNat : Nat) : Int) = x := by omega
    rw [e1, hX x.toNat k, e2, e3, e4]
    split
    · rfl
    · rename_i c
      refine (without_id fun q => c ?_).symm
      obtain ⟨_, _, r3, r4⟩ := (h.ls x k ht hk).2.2 s q
      exact ⟨r3, r4⟩
theorem Gone.there (h : Rp ns links l) {s : Int} (hs : thB ns s = true) (hg : Gone ns N s) (x : Int) : thB N x = true ↔ thB ns x = true ∧ x ≠ s := by
  obtain ⟨hp1, hp2, _⟩ := h.pl s (.inr hs)
  have htn := h.turn (.inr hs)
  have s1 := (th_iff.1 hs).1
  by_cases c : x = s
  · subst c
    constructor
    · intro q
      have := (th_iff.1 q).2.2
      rw [hg.bare] at this
      exact absurd this (by decide)
    · intro q; exact absurd rfl q.2
  · rw [th_iff, th_iff, hg.len]
    constructor
    · rintro ⟨q1, q2, q3⟩
      rw [hg.next x (by omega) c] at q3
      refine ⟨⟨q1, q2, ?_⟩, c⟩
      split at q3
      · rename_i e
        rw [e, htn]; omega
      · exact q3
    · rintro ⟨⟨q1, q2, q3⟩, _⟩
      refine ⟨q1, q2, ?_⟩
      rw [hg.next x (by omega) c]
      split
      · exact hp1.nn
      · exact q3
theorem Ch.later (h : Rp ns links l) {s : Int} (hs : thB ns s = true) (hg : Gone ns N s) : ∀ (m : List Int) (b : Int), Ch ns b m → s ∉ m → Ch N b m
  | [], _, hc, _ => hc
  | x :: m, b, hc, hn => by
    obtain ⟨rfl, h2, h3⟩ := hc
    have hbs : b ≠ s := fun e => hn (e ▸ List.mem_cons_self)
    have hb1 := (th_iff.1 h2).1
    have hne : b ≠ (nI ns s).prev := fun e => by
      have htn := h.turn (.inr hs)
      rw [← e] at htn
      rw [htn] at h3
      cases m with
      | nil => have h3' : s = 0 := h3; have := (th_iff.1 hs).1; omega
      | cons y m => exact hn (by rw [h3.1]; exact List.mem_cons_of_mem _ List.mem_cons_self)
    refine ⟨rfl, (hg.there h hs b).2 ⟨h2, hbs⟩, ?_⟩
    rw [hg.next b (by omega) hbs, if_neg hne]
    exact Ch.later h hs hg m _ h3 fun q => hn (List.mem_cons_of_mem _ q)
theorem Ch.gone (h : Rp ns links l) {s : Int} (hs : thB ns s = true) (hg : Gone ns N s) : ∀ (m : List Int) (p : Int), Pl ns p → p ≠ s → Ch ns (nI ns p).next m → m.Nodup → Ch N (nI N p).next (withoutI m s)
  | [], p, hp, hps, hc, _ => by
    have hc' : (nI ns p).next = 0 := hc
    have htn := h.turn (.inr hs)
    show (nI N p).next = 0
    rw [hg.next p hp.nn hps, if_neg (fun e => by
      rw [← e, hc'] at htn
      have := (th_iff.1 hs).1; omega)]
    exact hc'
  | x :: m, p, hp, hps, hc, hn => by
    obtain ⟨h1, h2, h3⟩ := hc
    have htn := h.turn (.inr hs)
    have hn' := List.nodup_cons.1 hn
    by_cases c : x = s
    · subst c
      have e : withoutI (x :: m) x = m := by
        have : withoutI (x :: m) x = withoutI m x := by unfold withoutI; simp
        rw [this, without_id hn'.1]
      rw [e]
      have hpp : p = (nI ns x).prev := by rw [← h1]; exact (h.pl p hp).2.2.symm
      rw [hg.next p hp.nn hps, if_pos hpp]
      exact Ch.later h hs hg m _ h3 hn'.1
    · have e : withoutI (x :: m) s = x :: withoutI m s := by
        unfold withoutI
        rw [List.filter_cons, if_pos (by rw [Bool.not_eq_true', beq_eq_false_iff_ne]; exact c)]
      rw [e, hg.next p hp.nn hps, if_neg (fun e => by rw [← e] at htn; rw [h1] at htn; exact c htn)]
      exact ⟨h1, (hg.there h hs x).2 ⟨h2, c⟩, Ch.gone h hs hg m x (.inr h2) c h3 hn'.2⟩
theorem Rp.drop (h : Rp ns links l) {s : Int} (hs : thB ns s = true) (hg : Gone ns N s) : Rp N links (withoutI l s) := by
  have hth := Gone.there h hs hg
  obtain ⟨hp1, hp2, hp3⟩ := h.pl s (.inr hs)
  have htn := h.turn (.inr hs)
  have s1 := (th_iff.1 hs).1
  have hPl : ∀ x, Pl N x ↔ Pl ns x ∧ x ≠ s := fun x => by
    unfold Pl
    rw [hth]
    constructor
    · rintro (q | q)
      · exact ⟨.inl q, by omega⟩
      · exact ⟨.inr q.1, q.2⟩
    · rintro ⟨q | q, q2⟩
      · exact .inl q
      · exact .inr ⟨q, q2⟩
  refine ⟨by rw [hg.len]; exact h.pos, by rw [hg.len]; exact h.le, fun k hk => ?_, fun x hx => ?_, fun x h1 h2 h3 => ?_, fun x hx => ?_, fun x k hx hk => ?_, fun x y hx hy he => ?_, ?_, h.nd.filter _, fun x hx => ?_⟩
  · by_cases c : (k : Int) = s
    · have e := hg.bare
      rw [← c] at e
      unfold nI at e
      rw [Int.toNat_natCast] at e
      rw [e]; rfl
    · obtain ⟨_, e2, _, e4⟩ := hg.keep (k : Int) (by omega) c
      unfold nI at e2 e4
      rw [Int.toNat_natCast] at e2 e4
      rw [e2, e4]
      exact h.hln k (by rw [← hg.len]; exact hk)
  · obtain ⟨q, qs⟩ := (hPl x).1 hx
    have x0 := q.nn
    obtain ⟨r1, r2, r3⟩ := h.pl x q
    have rt := h.turn q
    rw [hg.next x x0 qs, hg.prev x x0 qs]
    refine ⟨?_, ?_, ?_⟩
    · split
      · rename_i e
        refine (hPl _).2 ⟨hp1, fun e2 => ?_⟩
        rw [e2] at hp3
        exact qs (by rw [e]; exact hp3)
      · rename_i e
        refine (hPl _).2 ⟨r1, fun e2 => e ?_⟩
        rw [e2] at r3; exact r3.symm
    · split
      · rename_i e
        refine (hPl _).2 ⟨hp2, fun e2 => ?_⟩
        rw [e2] at htn
        exact qs (by rw [e]; exact htn)
      · rename_i e
        refine (hPl _).2 ⟨r2, fun e2 => e ?_⟩
        rw [e2] at rt; exact rt.symm
    · split
      · rename_i e
        have hne : (nI ns s).next ≠ s := fun e2 => by
          rw [e2] at hp3
          exact qs (by rw [e]; exact hp3)
        rw [hg.prev _ hp1.nn hne, if_pos rfl, e]
      · rename_i e
        have hne : (nI ns x).next ≠ s := fun e2 => e (by rw [e2] at r3; exact r3.symm)
        rw [hg.prev _ r1.nn hne, if_neg (fun e2 => by rw [e2, hp3] at r3; exact qs r3.symm), r3]
  · by_cases c : x = s
    · rw [c, hg.bare]; rfl
    · have hxn : thB ns x = false := by
        cases e : thB ns x with
        | false => rfl
        | true => rw [(hth x).2 ⟨e, c⟩] at h3; cases h3
      have hno : ∀ y, Pl ns y → x ≠ y := fun y hy e => by
        subst e
        rcases hy with q | q
        · omega
        · rw [hxn] at q; cases q
      have := h.bare x h1 (by rw [← hg.len]; exact h2) hxn
      obtain ⟨e1, e2, _, _⟩ := hg.keep x (by omega) c
      unfold bareB at this ⊢
      rw [hg.next x (by omega) c, hg.prev x (by omega) c, if_neg (hno _ hp2), if_neg (hno _ hp1), e1, e2]
      exact this
  · obtain ⟨q, qs⟩ := (hth x).1 hx
    have x1 := (th_iff.1 q).1
    obtain ⟨e1, e2, _, _⟩ := hg.keep x (by omega) qs
    have := h.shape x q
    unfold shapeB at this ⊢
    rw [e1, e2]; exact this
  · obtain ⟨q, qs⟩ := (hth x).1 hx
    have x1 := (th_iff.1 q).1
    rw [(hg.keep x (by omega) qs).2.1] at hk
    obtain ⟨r1, r2, r3⟩ := h.ls x k q hk
    rw [hg.list x k q qs hk]
    refine ⟨r1.filter _, by have := without_len (lx ns x k) s; omega, fun y hy => ?_⟩
    obtain ⟨y1, y2⟩ := mem_without.1 hy
    obtain ⟨t1, t2, t3, t4⟩ := r3 y y1
    have y3 := (th_iff.1 t1).1
    refine ⟨(hth y).2 ⟨t1, y2⟩, t2, by rw [(hg.keep y (by omega) y2).2.1]; exact t3, ?_⟩
    rw [hg.list y k t1 y2 t3]
    exact mem_without.2 ⟨t4, qs⟩
  · obtain ⟨q, qs⟩ := (hth x).1 hx
    obtain ⟨r, rs⟩ := (hth y).1 hy
    have x1 := (th_iff.1 q).1
    have y1 := (th_iff.1 r).1
    rw [(hg.keep x (by omega) qs).2.2.1, (hg.keep y (by omega) rs).2.2.1] at he
    exact h.ids x y q r he
  · exact Ch.gone h hs hg l 0 (.inl rfl) (by omega) h.ch h.nd
  · obtain ⟨q, qs⟩ := (hth x).1 hx
    exact mem_without.2 ⟨h.all x q, qs⟩
/-- The entry. -/
theorem ent_put (h : Rp ns links l) {en tp level id : Int} (he : entB ns en tp = true) (vn : Nat) (vxs : List Int) (tags : Int) : entB (putSt ns (slotI ns) (putND ns id vn vxs tags level)) en tp = true := by
  unfold entB at he ⊢
  rw [Bool.or_eq_true] at he ⊢
  rcases he with q | q
  · exact .inl q
  · refine .inr ?_
    rw [Bool.and_eq_true, Bool.and_eq_true, decide_eq_true_eq, decide_eq_true_eq] at q ⊢
    obtain ⟨⟨q1, q2⟩, q3⟩ := q
    have e1 := th_iff.1 q1
    refine ⟨⟨(put_there h id vn vxs tags level en).2 (.inl q1), q2⟩, ?_⟩
    have hat := put_at h (putND ns id vn vxs tags level) en (by omega)
    rw [if_neg (fun e => slot_free ns (by rw [← e]; exact mem_liveI.2 q1)), if_neg (by omega)] at hat
    have : (nI (putSt ns (slotI ns) (putND ns id vn vxs tags level)) en).level = (nI ns en).level := by rw [hat]; split <;> rfl
    unfold nI at this
    rw [this]; exact q3
theorem ent_sm (hs : Sm N ns) {en tp : Int} (he : entB ns en tp = true) : entB N en tp = true := by
  unfold entB at he ⊢
  rw [hs.there, (hs.2 en.toNat).2.2.1]; exact he
theorem ent_drop (h : Rp ns links l) {s : Int} (hs : thB ns s = true) (hg : Gone ns N s) {en tp : Int} (he : entB ns en tp = true) : entB N (if en == s then 0 else en) (if en == s then 0 else tp) = true := by
  by_cases c : en == s
  · rw [if_pos c, if_pos c]; rfl
  · rw [if_neg c, if_neg c]
    rw [beq_iff_eq] at c
    unfold entB at he ⊢
    rw [Bool.or_eq_true] at he ⊢
    rcases he with q | q
    · exact .inl q
    · refine .inr ?_
      rw [Bool.and_eq_true, Bool.and_eq_true, decide_eq_true_eq, decide_eq_true_eq] at q ⊢
      obtain ⟨⟨q1, q2⟩, q3⟩ := q
      have e1 := th_iff.1 q1
      refine ⟨⟨(Gone.there h hs hg en).2 ⟨q1, c⟩, q2⟩, ?_⟩
      have := (hg.keep en (by omega) c).1
      unfold nI at this
      rw [this]; exact q3
end
/-- Every cell but those that hold one value stays. -/
def KeepBut (v : Value) (w w' : World) : Prop := w.heap.size ≤ w'.heap.size ∧ ∀ b i u, w.cell? ⟨b, i, none⟩ = some u → u ≠ v → w'.cell? ⟨b, i, none⟩ = some u
section
variable {w w' : World} {v : Value}
theorem KeepBut.ints {B n : Nat} {A : Option Addr} {k : IntKind} {xs : List Int} (hk : KeepBut v w w') (hv : ∀ x, v ≠ .int k x) (h : Rd w B A n (xs.map (.int k))) : Rd w' B A n (xs.map (.int k)) := by
  refine ⟨h.1, fun h0 => ?_⟩
  obtain ⟨b, o, e, hb, hc⟩ := h.2 h0
  refine ⟨b, o, e, hb, fun j u hu => hk.2 _ _ _ (hc j u hu) fun e2 => ?_⟩
  rw [List.getElem?_map] at hu
  obtain ⟨x, _, rfl⟩ := Option.map_eq_some_iff.1 hu
  exact hv x e2.symm
theorem KeepBut.is {B : Nat} {k : IntKind} {l : IS} (hk : KeepBut v w w') (hv : ∀ x, v ≠ .int k x) (h : l.At w B k) : l.At w' B k := ⟨h.1, h.2.1, hk.ints hv h.2.2.1, h.2.2.2⟩
/-- A list of numbers is not what starts with an id. -/
theorem is_not {g0 n0 c0 B : Nat} {k : IntKind} {l : IS} {id : Int} (hid : w.cell? ⟨g0, 0, none⟩ = some (.int .u64 id)) (hn0 : 0 < n0) (hk : k ≠ .u64) (h : l.At w B k) : l.v ≠ .slice (some ⟨g0, 0, none⟩) n0 c0 := by
  intro e
  unfold IS.v at e
  injection e with e1 e2 e3
  have hl := h.2.2.1.lenI
  obtain ⟨b, o, q, _, hc⟩ := h.2.2.1.2 (by omega)
  rw [e1] at q
  injection q with q
  injection q with q1 q2
  subst q1 q2
  have hx : 0 < l.xs.length := by omega
  have h1 := hc 0 _ (by rw [List.getElem?_map, List.getElem?_eq_getElem hx]; rfl)
  rw [Nat.add_zero, hid] at h1
  injection h1 with h1
  injection h1 with h1
  exact hk h1.symm
theorem PgAt.keep {B g0 n0 c0 n c : Nat} {A : Option Addr} {ns : List ND} {id : Int} (hk : KeepBut (.slice (some ⟨g0, 0, none⟩) n0 c0) w w') (hid : w.cell? ⟨g0, 0, none⟩ = some (.int .u64 id)) (hn0 : 0 < n0) (h : PgAt w B A n c ns) : PgAt w' B A n c ns := by
  refine ⟨h.1, h.2.1, ⟨h.2.2.1.1, h.2.2.1.2.1, fun h0 => ?_⟩, fun d hd => ?_⟩
  · obtain ⟨b, o, e, hb, hc⟩ := h.2.2.1.2.2 h0
    refine ⟨b, o, e, hb, fun i cs hi j u hu => hk.2 _ _ _ (hc i cs hi j u hu) fun e2 => ?_⟩
    subst e2
    rw [List.getElem?_map] at hi
    obtain ⟨d, hd, rfl⟩ := Option.map_eq_some_iff.1 hi
    have hdA := h.2.2.2 d (List.mem_of_getElem? hd)
    have hj : j < 7 := by
      have := (List.getElem?_eq_some_iff.1 hu).1
      simpa [ND.cells] using this
    unfold ND.cells at hu
    rcases j with _ | _ | _ | _ | _ | _ | _ | j
    · simp at hu
    · simp at hu
      exact is_not (c0 := c0) hid hn0 (by decide) hdA.1 hu
    · simp at hu
    · simp at hu
    · simp only [List.getElem?_cons_succ, List.getElem?_cons_zero, Option.some.injEq, Value.slice.injEq] at hu
      obtain ⟨p1, p2, p3⟩ := hu
      obtain ⟨b3, o3, q, _, hc3⟩ := hdA.2.2.2.1.2.2 (by omega)
      rw [p1] at q
      injection q with q
      injection q with q1 q2
      subst q1 q2
      have hl : d.ls.length = d.ln := hdA.len
      have hx : 0 < d.ls.length := by omega
      have h1 := hc3 0 _ (by rw [List.getElem?_map, List.getElem?_eq_getElem hx]; rfl) 0 _ rfl
      rw [Nat.zero_mul, Nat.add_zero, hid] at h1
      injection h1 with h1
      unfold IS.v at h1
      cases h1
    · simp at hu
    · simp at hu
    · omega
  · have hdA := h.2.2.2 d hd
    refine ⟨hk.is (fun x e => by cases e) hdA.1, hdA.2.1, hdA.2.2.1, ⟨hdA.2.2.2.1.1, hdA.2.2.2.1.2.1, fun h0 => ?_⟩, fun l hl => hk.is (fun x e => by cases e) (hdA.2.2.2.2.1 l hl), hdA.2.2.2.2.2⟩
    obtain ⟨b, o, e, hb, hc⟩ := hdA.2.2.2.1.2.2 h0
    refine ⟨b, o, e, hb, fun i cs hi j u hu => hk.2 _ _ _ (hc i cs hi j u hu) fun e2 => ?_⟩
    subst e2
    rw [List.getElem?_map] at hi
    obtain ⟨l, hl, rfl⟩ := Option.map_eq_some_iff.1 hi
    rcases j with _ | j
    · simp only [List.getElem?_cons_zero, Option.some.injEq] at hu
      exact is_not (c0 := c0) hid hn0 (by decide) (hdA.2.2.2.2.1 l (List.mem_of_getElem? hl)) hu
    · simp at hu
end
/-- The first cell of a plane's nodes. -/
theorem PgAt.id0 {w : World} {B g n c : Nat} {ns : List ND} (h : PgAt w B (some ⟨g, 0, none⟩) n c ns) (hn : 0 < n) : ∃ id, w.cell? ⟨g, 0, none⟩ = some (.int .u64 id) := by
  obtain ⟨b, o, d, e, _, hd, hr, _⟩ := h.node hn
  injection e with e
  injection e with e1 e2
  subst e1 e2
  have h1 := hr 0 _ rfl
  exact ⟨_, h1⟩
/-- A right plane in a box, its entry the head. -/
def PR (w : World) (t : Nat) (links : Int) : Prop := ∃ (g n c : Nat) (L : List ND) (l : List Int), PV w t g n c 0 0 L ∧ Rp L links l
theorem PR.below {w w' : World} {t : Nat} {links : Int} (h : PR w t links) (hb : Below w.heap.size w w') : PR w' t links := by
  obtain ⟨g, n, c, L, l, h1, h2⟩ := h
  exact ⟨g, n, c, L, l, h1.below hb, h2⟩
theorem PR.store {w : World} {t t2 g n c : Nat} {links : Int} {L : List ND} {l : List Int} (h : PR w t links) (hp : PV w t2 g n c 0 0 L) (hr : Rp L links l) :
    (Instr.storeAt 27 (.pointer (some ⟨t, 0, none⟩)) (.agg #[.slice (some ⟨g, 0, none⟩) n c, .int .i64 0, .int .i64 0])).run Try.prog w = .ok () (w.setCells t 0 (pgL (some ⟨g, 0, none⟩) n c 0 0).toList) ∧ PR (w.setCells t 0 (pgL (some ⟨g, 0, none⟩) n c 0 0).toList) t links ∧ Tch (fun k => k = t) w (w.setCells t 0 (pgL (some ⟨g, 0, none⟩) n c 0 0).toList) := by
  obtain ⟨g0, n0, c0, L0, l0, h1, h2⟩ := h
  have hT : Tch (fun k => k = t) w (w.setCells t 0 (pgL (some ⟨g, 0, none⟩) n c 0 0).toList) := Tch.setCells (S := fun k => k = t) rfl _ _ _ (Tch.refl _ _)
  have hB := Blk.put h1.blk (pgL (some ⟨g, 0, none⟩) n c 0 0).toList rfl
  refine ⟨row_store h1.blk (pgL (some ⟨g, 0, none⟩) n c 0 0) rfl planeT (by simp [pgL, Value.oneCell']), ⟨g, n, c, L, l, ⟨hB, ?_⟩, hr⟩, hT⟩
  obtain ⟨ns0, p1, p2⟩ := h1.pge
  obtain ⟨ns, q1, q2⟩ := hp.pge
  have hn0 : 0 < n0 := by
    have e1 := p1.len
    have e2 := p2.len
    have e3 := h2.pos
    omega
  obtain ⟨id, hid⟩ := p1.id0 hn0
  refine ⟨ns, (PgAt.keep (w' := w.setCells t 0 (pgL (some ⟨g, 0, none⟩) n c 0 0).toList) (c0 := c0) ⟨hT.size, fun b i u hu hne => ?_⟩ hid hn0 q1).more hT.size, q2⟩
  by_cases hb : b = t
  · subst hb
    have e1 := h1.blk.cell i
    rw [hu] at e1
    rw [hB.cell i]
    rcases i with _ | _ | _ | i
    · simp [pgL] at e1; exact absurd e1 hne
    · simp [pgL] at e1 ⊢; exact e1.symm
    · simp [pgL] at e1 ⊢; exact e1.symm
    · simp [pgL] at e1
  · rw [hT.cell (p := ⟨b, i, none⟩) (World.block_lt_of_cell? _ _ hu) hb]; exact hu
end Go.Proofs.Ytckclflbcgblaaa
