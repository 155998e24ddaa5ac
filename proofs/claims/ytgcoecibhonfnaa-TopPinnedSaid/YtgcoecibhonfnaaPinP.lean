/- As long as a worker is pinned, in plain words. -/
import Derived.Test.YtgcoecibhonfnaaSafQ
namespace Go.Proofs.Ytgcoecibhonfnaa
open Go.RowKit
theorem look_n (s : EpS) : s.look.n = s.n ∧ s.look.fl = s.fl ∧ (∀ i, s.look.rec_ i = s.rec_ i) ∧ (∀ q, s.look.gen_ q = s.gen_ q) ∧ s.look.k = s.k := by
  unfold EpS.look
  split
  · exact ⟨rfl, rfl, fun _ => rfl, fun _ => rfl, rfl⟩
  · split
    · exact ⟨rfl, rfl, fun _ => rfl, fun _ => rfl, rfl⟩
    · exact ⟨rfl, rfl, fun _ => rfl, fun _ => rfl, rfl⟩
/-- Nobody is pinned, nothing is in limbo. -/
structure Zs (s : EpS) (t : Nat) : Prop where
  inv : s.Inv t
  fl : s.fl = []
  z : ∀ i, i < s.n → s.rec_ i = 0
theorem Zs.new (n : Nat) (h1 : 1 ≤ n) (h2 : n ≤ 64) : Zs ⟨0, 0, List.replicate (n * 2) 0, []⟩ 0 :=
  ⟨inv_new n h1 h2, rfl, fun i hi => by
    simp [EpS.rec_, ig, List.getD_eq_getElem?_getD, List.getElem?_replicate]
    split <;> rfl⟩
theorem Zs.look {s : EpS} {t : Nat} (h : Zs s t) : Zs s.look (t + 1) := by
  obtain ⟨a, b, c, _, _⟩ := look_n s
  exact ⟨inv_look h.inv, by rw [b]; exact h.fl, fun i hi => by rw [a] at hi; rw [c]; exact h.z i hi⟩
/-- One worker is pinned since the epoch E; what is in limbo was retired in it. -/
structure Pd (s : EpS) (t who E : Nat) (sl : List Int) : Prop where
  inv : s.Inv t
  wh : who < s.n
  rw : s.rec_ who = (E : Int) + 1
  ro : ∀ i, i < s.n → i ≠ who → s.rec_ i = 0
  ph : s.ep = E ∨ (s.ep = E + 1 ∧ s.at_ ≤ who)
  sl_ : sl.length = s.k
  se : ∀ q, q < s.k → ig sl q = ig s.fl (q * 2)
  ge : ∀ q, q < s.k → s.gen_ q = E
section
variable {s : EpS} {t who E : Nat} {sl : List Int}
theorem Zs.pin (h : Zs s t) (hw : who < s.n) : (s.loadS who).pinB who = true ∧ Pd ((s.loadS who).pinS who) t who s.ep [] ∧ ((s.loadS who).pinS who).ep = s.ep ∧ ((s.loadS who).pinS who).n = s.n := by
  have hh : s.has who = true := by simp [EpS.has]; exact hw
  have e1 : s.loadS who = { s with ws := s.ws.set (who * 2) s.ep } := by unfold EpS.loadS; rw [hh, Int.toNat_natCast]; rfl
  have hn1 : (s.loadS who).n = s.n := by rw [e1]; exact n_set _ _ _
  have hl := fun j => ld_set0 hw (s.ep : Int) j
  rw [← e1] at hl
  have hh2 : (s.loadS who).has who = true := by simp [EpS.has, hn1]; exact hw
  have hpb : (s.loadS who).pinB who = true := by
    unfold EpS.pinB
    rw [hh2, Int.toNat_natCast, (hl who).2, h.z who hw]; rfl
  have e2 : (s.loadS who).pinS who = { s.loadS who with ws := (s.loadS who).ws.set (who * 2 + 1) ((s.loadS who).ld who + 1) } := by unfold EpS.pinS; rw [hpb, Int.toNat_natCast]; rfl
  have hw1 : who < (s.loadS who).n := by rw [hn1]; exact hw
  have hp := fun j => ld_set1 hw1 ((s.loadS who).ld who + 1) j
  rw [← e2] at hp
  have hn2 : ((s.loadS who).pinS who).n = s.n := by rw [e2, n_set]; exact hn1
  have hld : (s.loadS who).ld who = s.ep := by rw [(hl who).1, if_pos rfl]
  have hfl : ((s.loadS who).pinS who).fl = [] := by rw [e2]; show (s.loadS who).fl = []; rw [e1]; exact h.fl
  have hk : ((s.loadS who).pinS who).k = 0 := by unfold EpS.k; rw [hfl]; rfl
  have hep : ((s.loadS who).pinS who).ep = s.ep := by rw [e2]; show (s.loadS who).ep = s.ep; rw [e1]
  refine ⟨hpb, ⟨inv_pin (inv_load h.inv _) _, by rw [hn2]; exact hw, ?_, fun i hi hne => ?_, Or.inl hep, by rw [hk]; rfl, fun q hq => by omega, fun q hq => by omega⟩, hep, hn2⟩
  · rw [(hp who).2, if_pos rfl, hld]
  · rw [hn2] at hi
    rw [(hp i).2, if_neg (fun e => hne e.symm), (hl i).2]
    exact h.z i hi
theorem Pd.ret (h : Pd s t who E sl) (hE : s.ep = E) {x : Int} (hb : s.retB x = true) : Pd (s.retS x) (t + 1) who E (sl ++ [x]) ∧ (s.retS x).ep = E ∧ (s.retS x).n = s.n := by
  have hi := inv_ret h.inv x
  have e1 : s.retS x = { s with fl := s.fl ++ [x, (s.ep : Int)] } := by unfold EpS.retS; rw [hb]; rfl
  have e2 : ({ s with fl := s.fl ++ [x, (s.ep : Int)] } : EpS).k = s.k + 1 := by simp [EpS.k]
  rw [e1] at hi ⊢
  have hf := h.inv.fl
  refine ⟨⟨hi, h.wh, h.rw, h.ro, h.ph, by rw [e2]; simp [h.sl_], fun q hq => ?_, fun q hq => ?_⟩, hE, rfl⟩
  · rw [e2] at hq
    show ig (sl ++ [x]) q = ig (s.fl ++ [x, (s.ep : Int)]) (q * 2)
    by_cases hqk : q < s.k
    · rw [ig_append_left (by rw [h.sl_]; exact hqk), ig_append_left (by omega)]; exact h.se q hqk
    · obtain rfl : q = s.k := by omega
      rw [ig_append_right (by rw [h.sl_]; exact Nat.le_refl _), ig_append_right (by omega), h.sl_, Nat.sub_self, show s.k * 2 - s.fl.length = 0 by omega]; rfl
  · rw [e2] at hq
    show ig (s.fl ++ [x, (s.ep : Int)]) (q * 2 + 1) = E
    by_cases hqk : q < s.k
    · rw [ig_append_left (by omega)]; exact h.ge q hqk
    · obtain rfl : q = s.k := by omega
      rw [ig_append_right (by omega), show s.k * 2 + 1 - s.fl.length = 1 by omega, hE]; rfl
theorem Pd.look (h : Pd s t who E sl) : Pd s.look (t + 1) who E sl := by
  obtain ⟨a, b, c, d, e⟩ := look_n s
  have hat := h.inv.at_
  refine ⟨inv_look h.inv, by rw [a]; exact h.wh, by rw [c]; exact h.rw, fun i hi hne => by rw [a] at hi; rw [c]; exact h.ro i hi hne, ?_, by rw [e]; exact h.sl_, fun q hq => by rw [e] at hq; rw [b]; exact h.se q hq, fun q hq => by rw [e] at hq; rw [d]; exact h.ge q hq⟩
  have hrec : s.held = false → s.rec_ s.at_ = 0 ∨ s.rec_ s.at_ = (s.ep : Int) + 1 := by
    intro hh
    simp only [EpS.held, Bool.and_eq_false_iff, bne_eq_false_iff_eq] at hh
    exact hh
  unfold EpS.look
  cases hh : s.held with
  | true =>
    simp only [if_true]
    rcases h.ph with p | p
    · exact Or.inl p
    · exact Or.inr ⟨p.1, Nat.zero_le _⟩
  | false =>
    simp only [Bool.false_eq_true, if_false]
    have hr := hrec hh
    split
    · rcases h.ph with p | p
      · exact Or.inl p
      · refine Or.inr ⟨p.1, ?_⟩
        show s.at_ + 1 ≤ who
        rcases Nat.lt_or_ge s.at_ who with q | q
        · exact q
        · have : s.at_ = who := by omega
          rw [this, h.rw] at hr
          omega
    · rename_i hk
      rcases h.ph with p | p
      · exact Or.inr ⟨by show s.ep + 1 = E + 1; omega, Nat.zero_le _⟩
      · exfalso
        have hw := h.wh
        have : s.at_ = who := by omega
        rw [this, h.rw] at hr
        omega
theorem Pd.free (h : Pd s t who E sl) : outN s.fl s.ep s.k = [] ∧ keptN s.fl s.ep s.k = s.fl := by
  have hr : ∀ q, q < s.k → ripe s.fl s.ep q = false := fun q hq => by
    have := h.ge q hq
    have hgq : s.gen_ q = ig s.fl (q * 2 + 1) := rfl
    have hp := h.ph
    unfold ripe
    simp
    omega
  have hf := h.inv.fl
  exact ⟨outN_nil hr, by rw [keptN_take hr (by omega), List.take_of_length_le (by omega)]⟩
theorem Pd.unp (h : Pd s t who E sl) : Fin3 (s.unpS who) t E sl ∧ (∀ i, i < s.n → (s.unpS who).rec_ i = 0) ∧ (s.unpS who).n = s.n ∧ (s.unpS who).at_ = s.at_ ∧ E ≤ (s.unpS who).ep := by
  have hf : Fin3 s t E sl := ⟨h.inv, h.sl_, h.se, fun q hq => by rw [h.ge q hq]; exact Int.le_refl _⟩
  have hu := fun j => unp_rec h.wh j
  refine ⟨hf.unp _, fun i hi => ?_, (hu 0).2.1, (hu 0).2.2.2, by rw [(hu 0).2.2.1]; have := h.ph; omega⟩
  rw [(hu i).1]
  split
  · rfl
  · rename_i hne
    exact h.ro i hi fun e => hne e.symm
end
/-- What lies in memory: the clock, a list of slots. -/
structure MemP (w0 w : World) (g gw : Nat) (p : EpP) (s : EpS) (sl : List Int) (SA : Option Addr) (sn sc : Nat) : Prop where
  e : EpAt w w0.heap.size p s
  so : OwnO w w0.heap.size SA sn sc sl
  ns : ∀ a, SA = some a → ¬ p.blk a.block
  pg : p.g = g
  pw : p.gw = gw
  b : Below w0.heap.size w0 w
section
variable {w0 w w' : World} {g gw : Nat} {p : EpP} {s : EpS} {sl : List Int} {SA : Option Addr} {sn sc : Nat}
theorem MemP.prog (h : MemP w0 w g gw p s sl SA sn sc) {p' : EpP} {s' : EpS} (he : EpAt w' w0.heap.size p' s') (hg : p'.g = p.g) (hw : p'.gw = p.gw) (hk : ∀ k, p'.blk k → p.blk k ∨ w.heap.size ≤ k) (ht : Tch p.blk w w') : MemP w0 w' g gw p' s' sl SA sn sc :=
  ⟨he, h.so.keep fun a ha => ht.block _ (h.so.lt ha).2 (h.ns a ha), fun a ha e => by
    rcases hk _ e with e | e
    · exact h.ns a ha e
    · have := (h.so.lt ha).2; omega, hg.trans h.pg, hw.trans h.pw, h.b.trans (ht.below h.b.size h.e.base_le)⟩
theorem MemP.push (h : MemP w0 w g gw p s sl SA sn sc) {A' : Option Addr} {c' n' : Nat} {sl' : List Int} (ho : OwnO w' w0.heap.size A' n' c' sl') (hA : ∀ a', A' = some a' → (∃ a0, SA = some a0 ∧ a0.block = a'.block) ∨ w.heap.size ≤ a'.block)
    (hb : Below w0.heap.size w w') (hk : ∀ k, k < w.heap.size → (∀ a0, SA = some a0 → a0.block ≠ k) → w'.heap[k]? = w.heap[k]?) : MemP w0 w' g gw p s sl' A' n' c' := by
  refine ⟨h.e.keep fun k hk' => hk k (h.e.lt k hk') fun a ha e => h.ns a ha (by rw [e]; exact hk'), ho, fun a ha => ?_, h.pg, h.pw, h.b.trans hb⟩
  rcases hA a ha with ⟨a0, h0, e⟩ | hn
  · rw [← e]; exact h.ns a0 h0
  · exact fun e => by have := h.e.lt _ e; omega
end
end Go.Proofs.Ytgcoecibhonfnaa
