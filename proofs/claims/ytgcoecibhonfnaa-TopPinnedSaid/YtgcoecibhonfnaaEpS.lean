/- The steps of the two clocks, each as one contract on one state. -/
import Derived.Test.YtgcoecibhonfnaaEpU
namespace Go.Proofs.Ytgcoecibhonfnaa
open Go.RowKit
/-- Where the document's clock lies: not in the blocks of S. -/
structure CAt (w : World) (S : Nat → Prop) (s : EpS) (LA : Option Addr) (RA : Option Addr) (MA : Option Addr) (mc : Nat) : Prop where
  l : Rd w w.heap.size LA s.n (s.lds.map (.int .i64))
  lo : Off S LA s.n
  r : Rd w w.heap.size RA s.n (s.recs.map (.int .i64))
  ro : Off S RA s.n
  m : Rd2 w w.heap.size MA s.k s.fl
  mo : Off S MA s.k
  mz : (s.k = 0 ∧ MA = none ∧ mc = 0) ∨ 0 < s.k
theorem CAt.far {w w' : World} {S S' : Nat → Prop} {s : EpS} {LA RA MA : Option Addr} {mc : Nat} (h : CAt w S s LA RA MA mc) (ht : Tch S w w') (hS : ∀ k, S' k → S k ∨ w.heap.size ≤ k) : CAt w' S' s LA RA MA mc := by
  have hoff : ∀ {A n} {B : Nat} {P : World → Nat → Option Addr → Nat → Prop}, Off S A n → (0 < n → ∃ b o, A = some ⟨b, o, none⟩ ∧ b < w.heap.size) → Off S' A n := by
    intro A n B P ho hb hn a ha hs
    obtain ⟨b, o, e, hl⟩ := hb hn
    rcases hS _ hs with q | q
    · exact ho hn a ha q
    · rw [ha] at e
      injection e with e
      rw [e] at q
      simp only at q
      omega
  refine ⟨h.l.far h.lo ht, ?_, h.r.far h.ro ht, ?_, h.m.far h.mo ht, ?_, h.mz⟩
  · exact hoff (B := 0) (P := fun _ _ _ _ => True) h.lo fun hn => by obtain ⟨b, o, e, hb, _⟩ := h.l.2 hn; exact ⟨b, o, e, hb⟩
  · exact hoff (B := 0) (P := fun _ _ _ _ => True) h.ro fun hn => by obtain ⟨b, o, e, hb, _⟩ := h.r.2 hn; exact ⟨b, o, e, hb⟩
  · exact hoff (B := 0) (P := fun _ _ _ _ => True) h.mo fun hn => by obtain ⟨b, o, e, hb, _⟩ := h.m.2 hn; exact ⟨b, o, e, hb⟩
theorem CAt.below {w w' : World} {S : Nat → Prop} {s : EpS} {LA RA MA : Option Addr} {mc : Nat} (h : CAt w S s LA RA MA mc) (hb : Below w.heap.size w w') : CAt w' S s LA RA MA mc :=
  h.far (Tch.of_below hb) fun _ hk => Or.inl hk
theorem CAt.drewN {w : World} {S : Nat → Prop} {s : EpS} {LA RA MA : Option Addr} {mc : Nat} (h : CAt w S s LA RA MA mc) (n : Nat) : CAt (w.drewN n) S s LA RA MA mc := ⟨h.l, h.lo, h.r, h.ro, h.m, h.mo, h.mz⟩
theorem n_set (s : EpS) (k : Nat) (u : Int) : ({ s with ws := s.ws.set k u } : EpS).n = s.n := by simp [EpS.n]
theorem lds_set0 {s : EpS} {i : Nat} (hi : i < s.n) (u : Int) : ({ s with ws := s.ws.set (i * 2) u } : EpS).lds = s.lds.set i u ∧ ({ s with ws := s.ws.set (i * 2) u } : EpS).recs = s.recs := by
  have hl : i * 2 < s.ws.length := by unfold EpS.n at hi; omega
  unfold EpS.lds EpS.recs
  rw [n_set, set_map_range]
  constructor
  · apply List.map_congr_left
    intro j _
    show ig (s.ws.set (i * 2) u) (j * 2) = _
    rw [ig_set hl]
    by_cases h : j = i
    · simp [h]
    · simp [h, show ¬ i * 2 = j * 2 by omega, EpS.ld]
  · apply List.map_congr_left
    intro j _
    show ig (s.ws.set (i * 2) u) (j * 2 + 1) = _
    rw [ig_set hl, if_neg (by omega)]; rfl
theorem lds_set1 {s : EpS} {i : Nat} (hi : i < s.n) (u : Int) : ({ s with ws := s.ws.set (i * 2 + 1) u } : EpS).lds = s.lds ∧ ({ s with ws := s.ws.set (i * 2 + 1) u } : EpS).recs = s.recs.set i u := by
  have hl : i * 2 + 1 < s.ws.length := by unfold EpS.n at hi; omega
  unfold EpS.lds EpS.recs
  rw [n_set, set_map_range]
  constructor
  · apply List.map_congr_left
    intro j _
    show ig (s.ws.set (i * 2 + 1) u) (j * 2) = _
    rw [ig_set hl, if_neg (by omega)]; rfl
  · apply List.map_congr_left
    intro j _
    show ig (s.ws.set (i * 2 + 1) u) (j * 2 + 1) = _
    rw [ig_set hl]
    by_cases h : j = i
    · simp [h]
    · rw [if_neg (by omega), if_neg h]; rfl
theorem bb {B : Nat} {w w' : World} (h : w = w') : Below B w w' := by rw [h]; exact Below.refl _ _
theorem EpAt.tt {w w' : World} {p : EpP} (h : w = w') : Tch p.blk w w' := by rw [h]; exact Tch.refl _ _
section
variable {w : World} {S : Nat → Prop} {s : EpS} {LA RA MA : Option Addr} {mc : Nat}
end
section
variable {w : World} {base : Nat} {p : EpP} {s : EpS}
theorem EpAt.out (h : EpAt w base p s) {i : Int} (hh : s.has i = false) : EpOut (some ⟨p.g, 0, none⟩) w i := Or.inr ⟨base, p, s, rfl, h, has_false hh⟩
theorem p_load (h : EpAt w base p s) (i : Int) :
    Calls Try.prog 7 #[.pointer (some ⟨p.g, 0, none⟩), .int .i64 i] w fun e w' => e = .returned (.int .i64 (s.loadV i)) ∧ EpAt w' base p (s.loadS i) ∧ Tch p.blk w w' := by
  cases hh : s.has i with
  | false =>
    have e1 : s.loadS i = s := by unfold EpS.loadS; rw [hh]; rfl
    have e2 : s.loadV i = 0 := by unfold EpS.loadV; rw [hh]; rfl
    rw [e1, e2]
    refine (ep_load_out _ i w (h.out hh)).mono ?_
    rintro en w' ⟨rfl, rfl⟩
    exact ⟨rfl, h, Tch.refl _ _⟩
  | true =>
    obtain ⟨j, rfl, hj⟩ := has_true hh
    have e1 : s.loadS j = { s with ws := s.ws.set (j * 2) s.ep } := by unfold EpS.loadS; rw [hh]; rfl
    have e2 : s.loadV j = s.ep := by unfold EpS.loadV; rw [hh]; rfl
    rw [e1, e2]
    exact ep_load p s base j w h hj
theorem p_pin (h : EpAt w base p s) (hld : ∀ j, j < s.n → 0 ≤ s.ld j ∧ s.ld j ≤ 4611686018427387904) (i : Int) :
    Calls Try.prog 8 #[.pointer (some ⟨p.g, 0, none⟩), .int .i64 i] w fun e w' => e = .returned (.bool (s.pinB i)) ∧ EpAt w' base p (s.pinS i) ∧ Tch p.blk w w' := by
  cases hb : s.pinB i with
  | false =>
    have e1 : s.pinS i = s := by unfold EpS.pinS; rw [hb]; rfl
    rw [e1]
    cases hh : s.has i with
    | false =>
      refine (ep_pin_out _ i w (h.out hh)).mono ?_
      rintro en w' ⟨rfl, rfl⟩
      exact ⟨rfl, h, Tch.refl _ _⟩
    | true =>
      obtain ⟨j, rfl, hj⟩ := has_true hh
      refine (ep_pin_no p s base j w h hj (by unfold EpS.pinB at hb; rw [hh] at hb; simpa using hb)).mono ?_
      rintro en w' ⟨rfl, rfl⟩
      exact ⟨rfl, h, Tch.refl _ _⟩
  | true =>
    have hb' := hb
    unfold EpS.pinB at hb'
    simp only [Bool.and_eq_true, beq_iff_eq] at hb'
    obtain ⟨j, rfl, hj⟩ := has_true hb'.1
    have e1 : s.pinS j = { s with ws := s.ws.set (j * 2 + 1) (s.ld j + 1) } := by unfold EpS.pinS; rw [hb]; rfl
    rw [e1]
    exact ep_pin p s base j w h hj hb'.2 (s.ld j) rfl (hld j hj).1 (hld j hj).2
theorem p_unp (h : EpAt w base p s) (i : Int) :
    Calls Try.prog 9 #[.pointer (some ⟨p.g, 0, none⟩), .int .i64 i] w fun e w' => e = .returned (.bool (s.unpB i)) ∧ EpAt w' base p (s.unpS i) ∧ Tch p.blk w w' := by
  cases hb : s.unpB i with
  | false =>
    have e1 : s.unpS i = s := by unfold EpS.unpS; rw [hb]; rfl
    rw [e1]
    cases hh : s.has i with
    | false =>
      refine (ep_unpin_out _ i w (h.out hh)).mono ?_
      rintro en w' ⟨rfl, rfl⟩
      exact ⟨rfl, h, Tch.refl _ _⟩
    | true =>
      obtain ⟨j, rfl, hj⟩ := has_true hh
      refine (ep_unpin_no p s base j w h hj (by unfold EpS.unpB at hb; rw [hh] at hb; simpa using hb)).mono ?_
      rintro en w' ⟨rfl, rfl⟩
      exact ⟨rfl, h, Tch.refl _ _⟩
  | true =>
    have hb' := hb
    unfold EpS.unpB at hb'
    simp only [Bool.and_eq_true, bne_iff_ne] at hb'
    obtain ⟨j, rfl, hj⟩ := has_true hb'.1
    have e1 : s.unpS j = { s with ws := s.ws.set (j * 2 + 1) 0 } := by unfold EpS.unpS; rw [hb]; rfl
    rw [e1]
    exact ep_unpin p s base j w h hj hb'.2
theorem p_rec (h : EpAt w base p s) (i : Int) :
    Calls Try.prog 16 #[.pointer (some ⟨p.g, 0, none⟩), .int .i64 i] w fun e w' => e = .returned (.int .i64 (s.recV i)) ∧ w = w' := by
  cases hh : s.has i with
  | false =>
    have e2 : s.recV i = 0 := by unfold EpS.recV; rw [hh]; rfl
    rw [e2]
    exact ep_rec_out _ i w (h.out hh)
  | true =>
    obtain ⟨j, rfl, hj⟩ := has_true hh
    have e2 : s.recV j = s.rec_ j := by unfold EpS.recV; rw [hh]; rfl
    rw [e2]
    exact ep_rec p s base j w h hj
theorem p_ret (h : EpAt w base p s) (hb : base ≤ w.heap.size) (hk : s.k ≤ 1048576) (x : Int) :
    Calls Try.prog 10 #[.pointer (some ⟨p.g, 0, none⟩), .int .i64 x] w fun e w' => e = .returned (.bool (s.retB x)) ∧ ∃ B d, EpAt w' base { p with B := B, d := d } (s.retS x) ∧ (∀ k, ({ p with B := B, d := d } : EpP).blk k → p.blk k ∨ w.heap.size ≤ k) ∧ Tch p.blk w w' := by
  cases hs : slotIn s.fl s.k x with
  | true =>
    have e0 : s.retB x = false := by unfold EpS.retB; rw [hs]; rfl
    have e1 : s.retS x = s := by unfold EpS.retS; rw [e0]; rfl
    rw [e1, e0]
    refine (ep_retire_has p s base x w h (by omega) hs).mono ?_
    rintro en w' ⟨rfl, hb'⟩
    exact ⟨rfl, p.B, p.d, h.below hb', fun k hk => Or.inl hk, Tch.of_below hb'⟩
  | false =>
    have e0 : s.retB x = true := by unfold EpS.retB; rw [hs]; rfl
    have e1 : s.retS x = { s with fl := s.fl ++ [x, (s.ep : Int)] } := by unfold EpS.retS; rw [e0]; rfl
    rw [e1, e0]
    refine (ep_retire p s base x w h hb hk hs).mono ?_
    rintro en w' ⟨rfl, ⟨B, d, h1, h2⟩, h3⟩
    exact ⟨rfl, B, d, h1, h2, h3⟩
end
end Go.Proofs.Ytgcoecibhonfnaa
