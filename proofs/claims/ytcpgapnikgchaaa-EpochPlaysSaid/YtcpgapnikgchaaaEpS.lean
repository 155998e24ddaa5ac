/- The steps of the two clocks, each as one contract on one state. -/
import Derived.Test.YtcpgapnikgchaaaEpU
namespace Go.Proofs.Ytcpgapnikgchaaa
open Go.RowKit
/-- Where the document's clock lies: not in the blocks of S. -/
structure CAt (w : World) (S : Nat → Prop) (s : EpS) (LA : Option Addr) (RA : Option Addr) (MA : Option Addr) (mc : Nat) : Prop where
  l : Rd w w.heap.size LA s.n (s.lds.map (.int .i64))
  lo : Off S LA s.n
  r : Rd w w.heap.size RA s.n (s.recs.map (.int .i64))
  ro : Off S RA s.n
  m : Rd2 w w.heap.size MA s.k s.fl
  mo : Off S MA s.k
  mz : (s.k = 0 ∧ MA = none ∧ mc = 0) ∨ 0 < s.k
theorem CAt.far {w w' : World} {S S' : Nat → Prop} {s : EpS} {LA RA MA : Option Addr} {mc : Nat} (h : CAt w S s LA RA MA mc) (ht : Tch S w w') (hS : ∀ k, S' k → S k ∨ w.heap.size ≤ k) : CAt w' S' s LA RA MA mc := by
  have hoff : ∀ {A n} {B : Nat} {P : World → Nat → Option Addr → Nat → Prop}, Off S A n → (0 < n → ∃ b o, A = some ⟨b, o, none⟩ ∧ b < w.heap.size) → Off S' A n := by
    intro A n B P ho hb hn a ha hs
    obtain ⟨b, o, e, hl⟩ := hb hn
    rcases hS _ hs with q | q
    · exact ho hn a ha q
    · rw [ha] at e
      injection e with e
      rw [e] at q
      simp only at q
      omega
  refine ⟨h.l.far h.lo ht, ?_, h.r.far h.ro ht, ?_, h.m.far h.mo ht, ?_, h.mz⟩
  · exact hoff (B := 0) (P := fun _ _ _ _ => True) h.lo fun hn => by obtain ⟨b, o, e, hb, _⟩ := h.l.2 hn; exact ⟨b, o, e, hb⟩
  · exact hoff (B := 0) (P := fun _ _ _ _ => True) h.ro fun hn => by obtain ⟨b, o, e, hb, _⟩ := h.r.2 hn; exact ⟨b, o, e, hb⟩
  · exact hoff (B := 0) (P := fun _ _ _ _ => True) h.mo fun hn => by obtain ⟨b, o, e, hb, _⟩ := h.m.2 hn; exact ⟨b, o, e, hb⟩
theorem CAt.below {w w' : World} {S : Nat → Prop} {s : EpS} {LA RA MA : Option Addr} {mc : Nat} (h : CAt w S s LA RA MA mc) (hb : Below w.heap.size w w') : CAt w' S s LA RA MA mc :=
  h.far (Tch.of_below hb) fun _ hk => Or.inl hk
theorem CAt.drewN {w : World} {S : Nat → Prop} {s : EpS} {LA RA MA : Option Addr} {mc : Nat} (h : CAt w S s LA RA MA mc) (n : Nat) : CAt (w.drewN n) S s LA RA MA mc := ⟨h.l, h.lo, h.r, h.ro, h.m, h.mo, h.mz⟩
theorem n_set (s : EpS) (k : Nat) (u : Int) : ({ s with ws := s.ws.set k u } : EpS).n = s.n := by simp [EpS.n]
theorem lds_set0 {s : EpS} {i : Nat} (hi : i < s.n) (u : Int) : ({ s with ws := s.ws.set (i * 2) u } : EpS).lds = s.lds.set i u ∧ ({ s with ws := s.ws.set (i * 2) u } : EpS).recs = s.recs := by
  have hl : i * 2 < s.ws.length := by unfold EpS.n at hi; omega
  unfold EpS.lds EpS.recs
  rw [n_set, set_map_range]
  constructor
  · apply List.map_congr_left
    intro j _
    show ig (s.ws.set (i * 2) u) (j * 2) = _
    rw [ig_set hl]
    by_cases h : j = i
    · simp [h]
    · simp [h, show ¬ i * 2 = j * 2 by omega, EpS.ld]
  · apply List.map_congr_left
    intro j _
    show ig (s.ws.set (i * 2) u) (j * 2 + 1) = _
    rw [ig_set hl, if_neg (by omega)]; rfl
theorem lds_set1 {s : EpS} {i : Nat} (hi : i < s.n) (u : Int) : ({ s with ws := s.ws.set (i * 2 + 1) u } : EpS).lds = s.lds ∧ ({ s with ws := s.ws.set (i * 2 + 1) u } : EpS).recs = s.recs.set i u := by
  have hl : i * 2 + 1 < s.ws.length := by unfold EpS.n at hi; omega
  unfold EpS.lds EpS.recs
  rw [n_set, set_map_range]
  constructor
  · apply List.map_congr_left
    intro j _
    show ig (s.ws.set (i * 2 + 1) u) (j * 2) = _
    rw [ig_set hl, if_neg (by omega)]; rfl
  · apply List.map_congr_left
    intro j _
    show ig (s.ws.set (i * 2 + 1) u) (j * 2 + 1) = _
    rw [ig_set hl]
    by_cases h : j = i
    · simp [h]
    · rw [if_neg (by omega), if_neg h]; rfl
theorem bb {B : Nat} {w w' : World} (h : w = w') : Below B w w' := by rw [h]; exact Below.refl _ _
theorem EpAt.tt {w w' : World} {p : EpP} (h : w = w') : Tch p.blk w w' := by rw [h]; exact Tch.refl _ _
section
variable {w : World} {S : Nat → Prop} {s : EpS} {LA RA MA : Option Addr} {mc : Nat}
theorem c_load (h : CAt w S s LA RA MA mc) (hS : ∀ k, S k → k < w.heap.size) (hn : s.n ≤ 64) (lc rc : Nat) (i : Int) :
    Calls Try.prog 8 #[cV s.ep s.at_ (.slice LA s.n lc) (.slice RA s.n rc) (.slice MA s.k mc), .int .i64 i] w fun en w' =>
      ∃ LA' lc' RA' rc' MA' mc', en = .returned (.tuple #[cV (s.loadS i).ep (s.loadS i).at_ (.slice LA' (s.loadS i).n lc') (.slice RA' (s.loadS i).n rc') (.slice MA' (s.loadS i).k mc'), .int .i64 (s.loadV i)]) ∧ CAt w' S (s.loadS i) LA' RA' MA' mc' ∧ Below w.heap.size w w' := by
  cases hh : s.has i with
  | false =>
    have e1 : s.loadS i = s := by unfold EpS.loadS; rw [hh]; rfl
    have e2 : s.loadV i = 0 := by unfold EpS.loadV; rw [hh]; rfl
    rw [e1, e2]
    refine (r_load_out s.ep s.at_ LA RA MA s.n lc rc s.k mc i w (has_false hh)).mono ?_
    rintro en w' ⟨rfl, hb⟩
    exact ⟨_, _, _, _, _, _, rfl, h.below hb, hb⟩
  | true =>
    obtain ⟨j, rfl, hj⟩ := has_true hh
    have e1 : s.loadS j = { s with ws := s.ws.set (j * 2) s.ep } := by unfold EpS.loadS; rw [hh]; rfl
    have e2 : s.loadV j = s.ep := by unfold EpS.loadV; rw [hh]; rfl
    obtain ⟨d1, d2⟩ := lds_set0 hj (s.ep : Int)
    rw [e1, e2]
    refine (r_load s.ep s.at_ LA RA MA s.n lc rc s.k mc s.lds j w h.l hj (by omega)).mono ?_
    rintro en w' ⟨⟨g, c', rfl, hg, hr⟩, hb⟩
    have h' := h.below hb
    refine ⟨some ⟨g, 0, none⟩, c', RA, rc, MA, mc, by rw [n_set]; rfl, ⟨?_, ?_, ?_, ?_, h'.m, h'.mo, h'.mz⟩, hb⟩
    · rw [d1, n_set]; exact hr
    · exact Off.fresh fun q => by have := hS _ q; omega
    · rw [d2, n_set]; exact h'.r
    · rw [n_set]; exact h'.ro
theorem c_pin (h : CAt w S s LA RA MA mc) (hS : ∀ k, S k → k < w.heap.size) (hn : s.n ≤ 64) (hld : ∀ j, j < s.n → 0 ≤ s.ld j ∧ s.ld j ≤ 4611686018427387904) (lc rc : Nat) (i : Int) :
    Calls Try.prog 10 #[cV s.ep s.at_ (.slice LA s.n lc) (.slice RA s.n rc) (.slice MA s.k mc), .int .i64 i] w fun en w' =>
      ∃ LA' lc' RA' rc' MA' mc', en = .returned (.tuple #[cV (s.pinS i).ep (s.pinS i).at_ (.slice LA' (s.pinS i).n lc') (.slice RA' (s.pinS i).n rc') (.slice MA' (s.pinS i).k mc'), .bool (s.pinB i)]) ∧ CAt w' S (s.pinS i) LA' RA' MA' mc' ∧ Below w.heap.size w w' := by
  cases hb : s.pinB i with
  | false =>
    have e1 : s.pinS i = s := by unfold EpS.pinS; rw [hb]; rfl
    rw [e1]
    have hno : Calls Try.prog 10 #[cV s.ep s.at_ (.slice LA s.n lc) (.slice RA s.n rc) (.slice MA s.k mc), .int .i64 i] w fun en w' => en = .returned (.tuple #[cV s.ep s.at_ (.slice LA s.n lc) (.slice RA s.n rc) (.slice MA s.k mc), .bool false]) ∧ Below w.heap.size w w' := by
      cases hh : s.has i with
      | false => exact r_pin_out s.ep s.at_ LA RA MA s.n lc rc s.k mc i w (has_false hh)
      | true =>
        obtain ⟨j, rfl, hj⟩ := has_true hh
        refine r_pin_no s.ep s.at_ LA RA MA s.n lc rc s.k mc s.recs j w h.r hj ?_
        unfold EpS.pinB at hb
        rw [hh] at hb
        unfold EpS.recs
        rw [ig_map_range _ hj]
        simpa using hb
    refine hno.mono ?_
    rintro en w' ⟨rfl, hb⟩
    exact ⟨_, _, _, _, _, _, rfl, h.below hb, hb⟩
  | true =>
    have hb' := hb
    unfold EpS.pinB at hb'
    simp only [Bool.and_eq_true, beq_iff_eq] at hb'
    obtain ⟨j, rfl, hj⟩ := has_true hb'.1
    have e1 : s.pinS j = { s with ws := s.ws.set (j * 2 + 1) (s.ld j + 1) } := by unfold EpS.pinS; rw [hb]; rfl
    obtain ⟨d1, d2⟩ := lds_set1 hj (s.ld j + 1)
    rw [e1]
    refine (r_pin s.ep s.at_ LA RA MA s.n lc rc s.k mc s.lds s.recs j w h.l h.r hj (by omega) ?_ (s.ld j) ?_ (hld j hj).1 (hld j hj).2).mono ?_
    · unfold EpS.recs; rw [ig_map_range _ hj]; exact hb'.2
    · unfold EpS.lds; rw [ig_map_range _ hj]
    rintro en w' ⟨⟨g, c', rfl, hg, hr⟩, hb⟩
    have h' := h.below hb
    refine ⟨LA, lc, some ⟨g, 0, none⟩, c', MA, mc, by rw [n_set]; rfl, ⟨?_, ?_, ?_, ?_, h'.m, h'.mo, h'.mz⟩, hb⟩
    · rw [d1, n_set]; exact h'.l
    · rw [n_set]; exact h'.lo
    · rw [d2, n_set]; exact hr
    · exact Off.fresh fun q => by have := hS _ q; omega
theorem c_unp (h : CAt w S s LA RA MA mc) (hS : ∀ k, S k → k < w.heap.size) (hn : s.n ≤ 64) (lc rc : Nat) (i : Int) :
    Calls Try.prog 12 #[cV s.ep s.at_ (.slice LA s.n lc) (.slice RA s.n rc) (.slice MA s.k mc), .int .i64 i] w fun en w' =>
      ∃ LA' lc' RA' rc' MA' mc', en = .returned (.tuple #[cV (s.unpS i).ep (s.unpS i).at_ (.slice LA' (s.unpS i).n lc') (.slice RA' (s.unpS i).n rc') (.slice MA' (s.unpS i).k mc'), .bool (s.unpB i)]) ∧ CAt w' S (s.unpS i) LA' RA' MA' mc' ∧ Below w.heap.size w w' := by
  cases hb : s.unpB i with
  | false =>
    have e1 : s.unpS i = s := by unfold EpS.unpS; rw [hb]; rfl
    rw [e1]
    have hno : Calls Try.prog 12 #[cV s.ep s.at_ (.slice LA s.n lc) (.slice RA s.n rc) (.slice MA s.k mc), .int .i64 i] w fun en w' => en = .returned (.tuple #[cV s.ep s.at_ (.slice LA s.n lc) (.slice RA s.n rc) (.slice MA s.k mc), .bool false]) ∧ Below w.heap.size w w' := by
      cases hh : s.has i with
      | false => exact r_unpin_out s.ep s.at_ LA RA MA s.n lc rc s.k mc i w (has_false hh)
      | true =>
        obtain ⟨j, rfl, hj⟩ := has_true hh
        refine r_unpin_no s.ep s.at_ LA RA MA s.n lc rc s.k mc s.recs j w h.r hj ?_
        unfold EpS.unpB at hb
        rw [hh] at hb
        unfold EpS.recs
        rw [ig_map_range _ hj]
        simpa using hb
    refine hno.mono ?_
    rintro en w' ⟨rfl, hb⟩
    exact ⟨_, _, _, _, _, _, rfl, h.below hb, hb⟩
  | true =>
    have hb' := hb
    unfold EpS.unpB at hb'
    simp only [Bool.and_eq_true, bne_iff_ne] at hb'
    obtain ⟨j, rfl, hj⟩ := has_true hb'.1
    have e1 : s.unpS j = { s with ws := s.ws.set (j * 2 + 1) 0 } := by unfold EpS.unpS; rw [hb]; rfl
    obtain ⟨d1, d2⟩ := lds_set1 hj 0
    rw [e1]
    refine (r_unpin s.ep s.at_ LA RA MA s.n lc rc s.k mc s.recs j w h.r hj (by omega) ?_).mono ?_
    · unfold EpS.recs; rw [ig_map_range _ hj]; exact hb'.2
    rintro en w' ⟨⟨g, c', rfl, hg, hr⟩, hb⟩
    have h' := h.below hb
    refine ⟨LA, lc, some ⟨g, 0, none⟩, c', MA, mc, by rw [n_set]; rfl, ⟨?_, ?_, ?_, ?_, h'.m, h'.mo, h'.mz⟩, hb⟩
    · rw [d1, n_set]; exact h'.l
    · rw [n_set]; exact h'.lo
    · rw [d2, n_set]; exact hr
    · exact Off.fresh fun q => by have := hS _ q; omega
theorem c_ret (h : CAt w S s LA RA MA mc) (hS : ∀ k, S k → k < w.heap.size) (hk : s.k ≤ 1048576) (lc rc : Nat) (x : Int) :
    Calls Try.prog 14 #[cV s.ep s.at_ (.slice LA s.n lc) (.slice RA s.n rc) (.slice MA s.k mc), .int .i64 x] w fun en w' =>
      ∃ LA' lc' RA' rc' MA' mc', en = .returned (.tuple #[cV (s.retS x).ep (s.retS x).at_ (.slice LA' (s.retS x).n lc') (.slice RA' (s.retS x).n rc') (.slice MA' (s.retS x).k mc'), .bool (s.retB x)]) ∧ CAt w' S (s.retS x) LA' RA' MA' mc' ∧ Below w.heap.size w w' := by
  refine (r_retire s.ep s.at_ LA RA MA s.n lc rc s.k mc s.fl x w h.m hk h.mz).mono ?_
  rintro en w' ⟨⟨hs, rfl⟩ | ⟨hs, g, cap, rfl, hg, hr⟩, hb⟩
  · have e0 : s.retB x = false := by unfold EpS.retB; rw [hs]; rfl
    have e1 : s.retS x = s := by unfold EpS.retS; rw [e0]; rfl
    rw [e1, e0]
    exact ⟨_, _, _, _, _, _, rfl, h.below hb, hb⟩
  · have e0 : s.retB x = true := by unfold EpS.retB; rw [hs]; rfl
    have e1 : s.retS x = { s with fl := s.fl ++ [x, (s.ep : Int)] } := by unfold EpS.retS; rw [e0]; rfl
    have e2 : ({ s with fl := s.fl ++ [x, (s.ep : Int)] } : EpS).k = s.k + 1 := by simp [EpS.k]
    rw [e1, e0, e2]
    have h' := h.below hb
    refine ⟨LA, lc, RA, rc, some ⟨g, 0, none⟩, cap, rfl, ⟨h'.l, h'.lo, h'.r, h'.ro, ?_, ?_, Or.inr (by rw [e2]; omega)⟩, hb⟩
    · rw [e2]; exact hr
    · exact Off.fresh fun q => by have := hS _ q; omega
theorem c_free (h : CAt w S s LA RA MA mc) (hS : ∀ k, S k → k < w.heap.size) (hk : s.k ≤ 1048576) (hge : ∀ j, j < s.k → 0 ≤ ig s.fl (j * 2 + 1) ∧ ig s.fl (j * 2 + 1) ≤ 4611686018427387904) (lc rc : Nat) :
    Calls Try.prog 18 #[cV s.ep s.at_ (.slice LA s.n lc) (.slice RA s.n rc) (.slice MA s.k mc)] w fun en w' =>
      ∃ LA' lc' RA' rc' MA' mc' A n1 c1, en = .returned (.tuple #[cV s.freeS.ep s.freeS.at_ (.slice LA' s.freeS.n lc') (.slice RA' s.freeS.n rc') (.slice MA' s.freeS.k mc'), .slice A n1 c1]) ∧ Rd w' w'.heap.size A n1 ((outN s.fl s.ep s.k).map (.int .i64)) ∧ Off S A n1 ∧ CAt w' S s.freeS LA' RA' MA' mc' ∧ Below w.heap.size w w' := by
  refine (r_free s.ep s.at_ LA RA MA s.n lc rc s.k mc s.fl w h.m hk hge).mono ?_
  rintro en w' ⟨⟨A, n1, c1, B, n2, c2, rfl, hA, hB, hz, hg, hga⟩, hb⟩
  have h' := h.below hb
  have e : s.freeS.k = n2 := by show (keptN s.fl s.ep s.k).length / 2 = n2; have := hB.1; omega
  refine ⟨LA, lc, RA, rc, B, c2, A, n1, c1, by rw [e]; rfl, hA, fun _ a ha q => by have := hS _ q; have := hga a ha; omega, ⟨h'.l, h'.lo, h'.r, h'.ro, by rw [e]; exact hB, ?_, by rw [e]; exact hz⟩, hb⟩
  intro _ a ha q
  have := hS _ q
  have := hg a ha
  omega
theorem c_look (h : CAt w S s LA RA MA mc) (hi : s.at_ < s.n) (hn : s.n ≤ 64) (he : s.ep ≤ 4611686018427387904) (lc rc : Nat) :
    Calls Try.prog 16 #[cV s.ep s.at_ (.slice LA s.n lc) (.slice RA s.n rc) (.slice MA s.k mc)] w fun en w' =>
      ∃ LA' lc' RA' rc' MA' mc', en = .returned (.tuple #[cV s.look.ep s.look.at_ (.slice LA' s.look.n lc') (.slice RA' s.look.n rc') (.slice MA' s.look.k mc'), .bool s.looked]) ∧ CAt w' S s.look LA' RA' MA' mc' ∧ Below w.heap.size w w' := by
  have hrec : ig s.recs s.at_ = s.rec_ s.at_ := by unfold EpS.recs; rw [ig_map_range _ hi]
  cases hh : s.held with
  | true =>
    have e1 : s.look = { s with at_ := 0 } := by unfold EpS.look; rw [hh]; rfl
    have e2 : s.looked = false := by unfold EpS.looked; rw [hh]; rfl
    unfold EpS.held at hh
    simp only [Bool.and_eq_true, bne_iff_ne] at hh
    rw [e1, e2]
    refine (r_look_a s.ep s.at_ LA RA MA s.n lc rc s.k mc s.recs w h.r hi hn he (by rw [hrec]; exact hh.1) (by rw [hrec]; exact hh.2)).mono ?_
    rintro en w' ⟨rfl, hb⟩
    have h' := h.below hb
    exact ⟨_, _, _, _, _, _, rfl, ⟨h'.l, h'.lo, h'.r, h'.ro, h'.m, h'.mo, h'.mz⟩, hb⟩
  | false =>
    have hh' := hh
    unfold EpS.held at hh'
    have hor : ig s.recs s.at_ = 0 ∨ ig s.recs s.at_ = (s.ep : Int) + 1 := by
      rw [hrec]
      by_cases h0 : s.rec_ s.at_ = 0
      · exact Or.inl h0
      · right
        have : (s.rec_ s.at_ != 0) = true := bne_iff_ne.2 h0
        rw [this, Bool.true_and] at hh'
        simpa using hh'
    by_cases hk : s.at_ + 1 < s.n
    · have e1 : s.look = { s with at_ := s.at_ + 1 } := by unfold EpS.look; rw [hh]; simp [hk]
      have e2 : s.looked = false := by unfold EpS.looked; rw [hh]; simp [hk]
      rw [e1, e2]
      have hc : Calls Try.prog 16 #[cV s.ep s.at_ (.slice LA s.n lc) (.slice RA s.n rc) (.slice MA s.k mc)] w fun en w' => en = .returned (.tuple #[.agg #[.int .i64 s.ep, .slice LA s.n lc, .slice RA s.n rc, .slice MA s.k mc, .int .i64 ((s.at_ : Int) + 1)], .bool false]) ∧ Below w.heap.size w w' := by
        rcases hor with h0 | h0
        · exact r_look_b1 s.ep s.at_ LA RA MA s.n lc rc s.k mc s.recs w h.r hi hn he h0 hk
        · exact r_look_b2 s.ep s.at_ LA RA MA s.n lc rc s.k mc s.recs w h.r hi hn he h0 hk
      refine hc.mono ?_
      rintro en w' ⟨rfl, hb⟩
      have h' := h.below hb
      exact ⟨_, _, _, _, _, _, rfl, ⟨h'.l, h'.lo, h'.r, h'.ro, h'.m, h'.mo, h'.mz⟩, hb⟩
    · have e1 : s.look = { s with at_ := 0, ep := s.ep + 1 } := by unfold EpS.look; rw [hh]; simp [hk]
      have e2 : s.looked = true := by unfold EpS.looked; rw [hh]; simp [hk]
      rw [e1, e2]
      have hc : Calls Try.prog 16 #[cV s.ep s.at_ (.slice LA s.n lc) (.slice RA s.n rc) (.slice MA s.k mc)] w fun en w' => en = .returned (.tuple #[.agg #[.int .i64 ((s.ep : Int) + 1), .slice LA s.n lc, .slice RA s.n rc, .slice MA s.k mc, .int .i64 0], .bool true]) ∧ Below w.heap.size w w' := by
        rcases hor with h0 | h0
        · exact r_look_c1 s.ep s.at_ LA RA MA s.n lc rc s.k mc s.recs w h.r hi hn he h0 (by omega)
        · exact r_look_c2 s.ep s.at_ LA RA MA s.n lc rc s.k mc s.recs w h.r hi hn he h0 (by omega)
      refine hc.mono ?_
      rintro en w' ⟨rfl, hb⟩
      have h' := h.below hb
      exact ⟨_, _, _, _, _, _, rfl, ⟨h'.l, h'.lo, h'.r, h'.ro, h'.m, h'.mo, h'.mz⟩, hb⟩
end
section
variable {w : World} {base : Nat} {p : EpP} {s : EpS}
theorem EpAt.out (h : EpAt w base p s) {i : Int} (hh : s.has i = false) : EpOut (some ⟨p.g, 0, none⟩) w i := Or.inr ⟨base, p, s, rfl, h, has_false hh⟩
theorem p_load (h : EpAt w base p s) (i : Int) :
    Calls Try.prog 9 #[.pointer (some ⟨p.g, 0, none⟩), .int .i64 i] w fun e w' => e = .returned (.int .i64 (s.loadV i)) ∧ EpAt w' base p (s.loadS i) ∧ Tch p.blk w w' := by
  cases hh : s.has i with
  | false =>
    have e1 : s.loadS i = s := by unfold EpS.loadS; rw [hh]; rfl
    have e2 : s.loadV i = 0 := by unfold EpS.loadV; rw [hh]; rfl
    rw [e1, e2]
    refine (ep_load_out _ i w (h.out hh)).mono ?_
    rintro en w' ⟨rfl, rfl⟩
    exact ⟨rfl, h, Tch.refl _ _⟩
  | true =>
    obtain ⟨j, rfl, hj⟩ := has_true hh
    have e1 : s.loadS j = { s with ws := s.ws.set (j * 2) s.ep } := by unfold EpS.loadS; rw [hh]; rfl
    have e2 : s.loadV j = s.ep := by unfold EpS.loadV; rw [hh]; rfl
    rw [e1, e2]
    exact ep_load p s base j w h hj
theorem p_pin (h : EpAt w base p s) (hld : ∀ j, j < s.n → 0 ≤ s.ld j ∧ s.ld j ≤ 4611686018427387904) (i : Int) :
    Calls Try.prog 11 #[.pointer (some ⟨p.g, 0, none⟩), .int .i64 i] w fun e w' => e = .returned (.bool (s.pinB i)) ∧ EpAt w' base p (s.pinS i) ∧ Tch p.blk w w' := by
  cases hb : s.pinB i with
  | false =>
    have e1 : s.pinS i = s := by unfold EpS.pinS; rw [hb]; rfl
    rw [e1]
    cases hh : s.has i with
    | false =>
      refine (ep_pin_out _ i w (h.out hh)).mono ?_
      rintro en w' ⟨rfl, rfl⟩
      exact ⟨rfl, h, Tch.refl _ _⟩
    | true =>
      obtain ⟨j, rfl, hj⟩ := has_true hh
      refine (ep_pin_no p s base j w h hj (by unfold EpS.pinB at hb; rw [hh] at hb; simpa using hb)).mono ?_
      rintro en w' ⟨rfl, rfl⟩
      exact ⟨rfl, h, Tch.refl _ _⟩
  | true =>
    have hb' := hb
    unfold EpS.pinB at hb'
    simp only [Bool.and_eq_true, beq_iff_eq] at hb'
    obtain ⟨j, rfl, hj⟩ := has_true hb'.1
    have e1 : s.pinS j = { s with ws := s.ws.set (j * 2 + 1) (s.ld j + 1) } := by unfold EpS.pinS; rw [hb]; rfl
    rw [e1]
    exact ep_pin p s base j w h hj hb'.2 (s.ld j) rfl (hld j hj).1 (hld j hj).2
theorem p_unp (h : EpAt w base p s) (i : Int) :
    Calls Try.prog 13 #[.pointer (some ⟨p.g, 0, none⟩), .int .i64 i] w fun e w' => e = .returned (.bool (s.unpB i)) ∧ EpAt w' base p (s.unpS i) ∧ Tch p.blk w w' := by
  cases hb : s.unpB i with
  | false =>
    have e1 : s.unpS i = s := by unfold EpS.unpS; rw [hb]; rfl
    rw [e1]
    cases hh : s.has i with
    | false =>
      refine (ep_unpin_out _ i w (h.out hh)).mono ?_
      rintro en w' ⟨rfl, rfl⟩
      exact ⟨rfl, h, Tch.refl _ _⟩
    | true =>
      obtain ⟨j, rfl, hj⟩ := has_true hh
      refine (ep_unpin_no p s base j w h hj (by unfold EpS.unpB at hb; rw [hh] at hb; simpa using hb)).mono ?_
      rintro en w' ⟨rfl, rfl⟩
      exact ⟨rfl, h, Tch.refl _ _⟩
  | true =>
    have hb' := hb
    unfold EpS.unpB at hb'
    simp only [Bool.and_eq_true, bne_iff_ne] at hb'
    obtain ⟨j, rfl, hj⟩ := has_true hb'.1
    have e1 : s.unpS j = { s with ws := s.ws.set (j * 2 + 1) 0 } := by unfold EpS.unpS; rw [hb]; rfl
    rw [e1]
    exact ep_unpin p s base j w h hj hb'.2
theorem p_rec (h : EpAt w base p s) (i : Int) :
    Calls Try.prog 23 #[.pointer (some ⟨p.g, 0, none⟩), .int .i64 i] w fun e w' => e = .returned (.int .i64 (s.recV i)) ∧ w = w' := by
  cases hh : s.has i with
  | false =>
    have e2 : s.recV i = 0 := by unfold EpS.recV; rw [hh]; rfl
    rw [e2]
    exact ep_rec_out _ i w (h.out hh)
  | true =>
    obtain ⟨j, rfl, hj⟩ := has_true hh
    have e2 : s.recV j = s.rec_ j := by unfold EpS.recV; rw [hh]; rfl
    rw [e2]
    exact ep_rec p s base j w h hj
theorem p_ret (h : EpAt w base p s) (hb : base ≤ w.heap.size) (hk : s.k ≤ 1048576) (x : Int) :
    Calls Try.prog 15 #[.pointer (some ⟨p.g, 0, none⟩), .int .i64 x] w fun e w' => e = .returned (.bool (s.retB x)) ∧ ∃ B d, EpAt w' base { p with B := B, d := d } (s.retS x) ∧ (∀ k, ({ p with B := B, d := d } : EpP).blk k → p.blk k ∨ w.heap.size ≤ k) ∧ Tch p.blk w w' := by
  cases hs : slotIn s.fl s.k x with
  | true =>
    have e0 : s.retB x = false := by unfold EpS.retB; rw [hs]; rfl
    have e1 : s.retS x = s := by unfold EpS.retS; rw [e0]; rfl
    rw [e1, e0]
    refine (ep_retire_has p s base x w h (by omega) hs).mono ?_
    rintro en w' ⟨rfl, hb'⟩
    exact ⟨rfl, p.B, p.d, h.below hb', fun k hk => Or.inl hk, Tch.of_below hb'⟩
  | false =>
    have e0 : s.retB x = true := by unfold EpS.retB; rw [hs]; rfl
    have e1 : s.retS x = { s with fl := s.fl ++ [x, (s.ep : Int)] } := by unfold EpS.retS; rw [e0]; rfl
    rw [e1, e0]
    refine (ep_retire p s base x w h hb hk hs).mono ?_
    rintro en w' ⟨rfl, ⟨B, d, h1, h2⟩, h3⟩
    exact ⟨rfl, B, d, h1, h2, h3⟩
end
end Go.Proofs.Ytcpgapnikgchaaa
