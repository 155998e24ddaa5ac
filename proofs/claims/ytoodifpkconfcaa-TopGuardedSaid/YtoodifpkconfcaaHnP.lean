/- Handed on: plain law; two watches, apart. -/
import Derived.Test.YtoodifpkconfcaaHnA
namespace Go.Proofs.Ytoodifpkconfcaa
open Go.RowKit
theorem PosK.cl0 {K : Int} (hK : 0 ≤ K) : PosK K cl0 := ⟨cl0_len, fun i _ => by rw [ig_cl0]; omega⟩
theorem PosK.sy {K : Int} (hK : 0 ≤ K) {fs : Int → Option (List Int)} (h : ∀ k c, fs k = some c → PosK K c) (p : Int) : PosK K (syC fs p) := by
  unfold syC
  cases hf : fs p with
  | none => exact PosK.cl0 hK
  | some c => exact h p c hf
theorem upC_self (ck : Nat → List Int) (u : Nat) (c : List Int) : upC ck u c u = c := if_pos rfl
theorem upC_ne (ck : Nat → List Int) {u x : Nat} (h : x ≠ u) (c : List Int) : upC ck u c x = ck x := if_neg h
theorem PosK.up {K : Int} {ck : Nat → List Int} (h : ∀ x, x < 65 → PosK K (ck x)) {u : Nat} {c : List Int} (hc : PosK K c) : ∀ x, x < 65 → PosK K (upC ck u c x) := fun x hx => by
  unfold upC
  split
  · exact hc
  · exact h x hx
/-- The clocks, if a place is loaded. -/
def ckL (ck : Nat → List Int) (fs : Int → Option (List Int)) (u : Nat) (p : Int) (b : Bool) : Nat → List Int := if b = true then upC ck u (mxC (ck u) (syC fs p)) else ck
theorem ckL_pos {K : Int} (hK : 0 ≤ K) {ck : Nat → List Int} {fs : Int → Option (List Int)} (h : ∀ x, x < 65 → PosK K (ck x)) (hf : ∀ k c, fs k = some c → PosK K c) {u : Nat} (hu : u < 65) (p : Int) (b : Bool) : ∀ x, x < 65 → PosK K (ckL ck fs u p b x) := by
  unfold ckL
  split
  · exact PosK.up h ((h u hu).mx (PosK.sy hK hf p))
  · exact h
theorem ckL_ge {K : Int} {ck : Nat → List Int} {fs : Int → Option (List Int)} (hK : 0 ≤ K) (h : ∀ x, x < 65 → PosK K (ck x)) (hf : ∀ k c, fs k = some c → PosK K c) {u : Nat} (hu : u < 65) (p : Int) (b : Bool) : ∀ x, x < 65 → ∀ i, i < 65 → ig (ck x) i ≤ ig (ckL ck fs u p b x) i := fun x hx i hi => by
  unfold ckL
  split
  · unfold upC
    split
    · rename_i e
      subst e
      rw [mxC_ig (h x hx).1 (PosK.sy hK hf p).1 hi]
      omega
    · omega
  · omega
/-- Where each one hands on. -/
structure HxI (i : Nat) (ck : Nat → List Int) (fs : Int → Option (List Int)) (nt : Int → Option NtR) : Prop where
  pk : ∀ u, u < 65 → PosK ((i : Int) + 1) (ck u)
  pf : ∀ k c, fs k = some c → PosK ((i : Int) + 1) c
  last : (i = 0 ∧ nt 7 = none) ∨ (0 < i ∧ ∃ s r, fs ((i : Int) - 1) = some s ∧ nt 7 = some r ∧ r.wr = true ∧ (r.rs = fun _ => none) ∧ r.ww < 65 ∧ r.wt ≤ ig s r.ww)
theorem ckJ_pos {u : Nat} (h : u < 65) : PosK 1 (ckJ 65 u) := by rw [ckJ_at h]; exact PosK.set0 (by decide) h (by decide)
theorem HxI.start : HxI 0 (ckJ 65) (fun _ => none) (fun _ => none) := ⟨fun u hu => ckJ_pos hu, fun k c h => (by cases h), .inl ⟨rfl, rfl⟩⟩
section
variable {i : Nat} {ck : Nat → List Int} {fs : Int → Option (List Int)} {nt : Int → Option NtR}
theorem HxI.knows (h : HxI i ck fs nt) {u : Nat} (hu : u < 65) {r : NtR} (hr : nt 7 = some r ∨ (nt 7 = none ∧ r.wr = false ∧ r.rs = fun _ => none)) :
    (!r.wr || knC (ckL ck fs u ((i : Int) - 1) (decide (0 < i)) u) u r.ww r.wt) = true ∧ r.rs = fun _ => none := by
  rcases h.last with ⟨_, h0⟩ | ⟨hi, s, r', h1, h2, h3, h4, h5, h6⟩
  · rcases hr with hr | ⟨_, hw, hs⟩
    · rw [h0] at hr; cases hr
    · rw [hw]; exact ⟨rfl, hs⟩
  · rcases hr with hr | ⟨hr, _⟩
    · rw [h2] at hr
      obtain rfl := Option.some.inj hr
      refine ⟨?_, h4⟩
      have e : ckL ck fs u ((i : Int) - 1) (decide (0 < i)) u = mxC (ck u) s := by
        unfold ckL
        rw [if_pos (decide_eq_true hi), upC_self]
        unfold syC
        rw [h1]; rfl
      rw [e]
      unfold knC
      rw [mxC_ig (h.pk u hu).1 (h.pf _ s h1).1 h5]
      have : r'.wt ≤ max (ig (ck u) r'.ww) (ig s r'.ww) := by omega
      simp [this]
    · rw [h2] at hr; cases hr
theorem HxI.step (h : HxI i ck fs nt) {u : Nat} (hu : u < 65) {b rb : Nat} {n1 : Int → Option NtR} (hn : n1 7 = some ⟨b, rb, u, ig (ckL ck fs u ((i : Int) - 1) (decide (0 < i)) u) u, true, fun _ => none⟩) :
    HxI (i + 1) (upC (ckL ck fs u ((i : Int) - 1) (decide (0 < i))) u (stepC (ckL ck fs u ((i : Int) - 1) (decide (0 < i)) u) u)) (upO fs (i : Int) (ckL ck fs u ((i : Int) - 1) (decide (0 < i)) u)) n1 := by
  have hK : (0 : Int) ≤ (i : Int) + 1 := by omega
  have hp := ckL_pos hK h.pk h.pf hu ((i : Int) - 1) (decide (0 < i))
  refine ⟨fun x hx => ?_, fun k c hc => ?_, .inr ⟨Nat.succ_pos _, _, _, by rw [show (((i + 1 : Nat) : Int) - 1) = (i : Int) by omega]; exact upO_self _ _ _, hn, rfl, rfl, hu, Int.le_refl _⟩⟩
  · exact PosK.up (fun y hy => (hp y hy).mono (by omega)) (((hp u hu).step hu).mono (by omega)) x hx
  · by_cases e : k = (i : Int)
    · subst e
      rw [upO_self] at hc
      obtain rfl := Option.some.inj hc
      exact (hp u hu).mono (by omega)
    · rw [upO_ne fs e] at hc
      exact (h.pf k c hc).mono (by omega)
end
/-- .. but for one. -/
structure HyI (ws : List Int) (L : Int) (i : Nat) (ck : Nat → List Int) (fs : Int → Option (List Int)) (nt : Int → Option NtR) (m : Nat) : Prop where
  pk : ∀ u, u < 65 → PosK ((i : Int) + 1) (ck u)
  pf : ∀ k c, fs k = some c → PosK ((i : Int) + 1) c
  own : ∀ u, u < 65 → 1 ≤ ig (ck u) u
  last : (i = 0 ∧ nt 7 = none) ∨ (0 < i ∧ ∃ r, nt 7 = some r ∧ r.wr = true ∧ (r.rs = fun _ => none) ∧ r.ww < 65 ∧ ((r.ww : Nat) : Int) = ig ws (i - 1) ∧ 1 ≤ r.wt)
  fresh : ∀ u : Nat, u < 65 → (∀ k, k < i → ig ws k ≠ (u : Int)) → ck u = cl0.set u 1
  cl : ∀ l : Nat, L = (l : Int) → 0 < l → l < i → (∀ k, k < l → ig ws k ≠ ig ws l) → 0 < m
  mi : m ≤ i
theorem HyI.start (ws : List Int) (L : Int) : HyI ws L 0 (ckJ 65) (fun _ => none) (fun _ => none) 0 :=
  ⟨fun u hu => ckJ_pos hu, fun k c h => (by cases h), fun u hu => (by rw [ckJ_at hu, ig_set0 hu, if_pos rfl]; decide), .inl ⟨rfl, rfl⟩, fun u hu _ => ckJ_at hu, fun l _ _ h => absurd h (Nat.not_lt_zero _), Nat.le_refl _⟩
section
variable {ws : List Int} {L : Int} {i : Nat} {ck : Nat → List Int} {fs : Int → Option (List Int)} {nt : Int → Option NtR} {m : Nat}
theorem HyI.none_ (h : HyI ws L i ck fs nt m) {r : NtR} (hr : nt 7 = some r ∨ (nt 7 = none ∧ r.wr = false ∧ r.rs = fun _ => none)) : r.rs = fun _ => none := by
  rcases hr with hr | ⟨_, _, hs⟩
  · rcases h.last with ⟨_, h0⟩ | ⟨_, r', h2, _, h4, _⟩
    · rw [h0] at hr; cases hr
    · rw [h2] at hr
      obtain rfl := Option.some.inj hr
      exact h4
  · exact hs
theorem HyI.step (h : HyI ws L i ck fs nt m) {u : Nat} (hu : u < 65) (hw : ig ws i = (u : Int)) {b rb : Nat} {n1 : Int → Option NtR} {r : NtR} (hr : nt 7 = some r ∨ (nt 7 = none ∧ r.wr = false ∧ r.rs = fun _ => none)) {bl : Bool} (hbl : bl = decide (0 < i ∧ (i : Int) ≠ L)) {kn : Bool} (hkn : kn = (!r.wr || knC (ckL ck fs u ((i : Int) - 1) bl u) u r.ww r.wt))
    (hn : n1 7 = some ⟨b, rb, u, ig (ckL ck fs u ((i : Int) - 1) bl u) u, true, fun _ => none⟩) :
    HyI ws L (i + 1) (upC (ckL ck fs u ((i : Int) - 1) bl) u (stepC (ckL ck fs u ((i : Int) - 1) bl u) u)) (upO fs (i : Int) (ckL ck fs u ((i : Int) - 1) bl u)) n1 (if kn = true then m else m + 1) := by
  have hK : (0 : Int) ≤ (i : Int) + 1 := by omega
  have hp := ckL_pos hK h.pk h.pf hu ((i : Int) - 1) bl
  have hge := ckL_ge hK h.pk h.pf hu ((i : Int) - 1) bl
  have hm := h.mi
  refine ⟨fun x hx => ?_, fun k c hc => ?_, fun x hx => ?_, .inr ⟨Nat.succ_pos _, _, hn, rfl, rfl, hu, by rw [Nat.add_sub_cancel, hw], ?_⟩, fun x hx hno => ?_, fun l hl h0 hli hne => ?_, by split <;> omega⟩
  · exact PosK.up (fun y hy => (hp y hy).mono (by omega)) (((hp u hu).step hu).mono (by omega)) x hx
  · by_cases e : k = (i : Int)
    · subst e
      rw [upO_self] at hc
      obtain rfl := Option.some.inj hc
      exact (hp u hu).mono (by omega)
    · rw [upO_ne fs e] at hc
      exact (h.pf k c hc).mono (by omega)
  · have h1 := h.own x hx
    have h2 := hge x hx x hx
    unfold upC
    split
    · rename_i e
      subst e
      rw [stepC_ig (hp x hx).1 hx, if_pos rfl]; omega
    · omega
  · have h1 := h.own u hu
    have h2 := hge u hu u hu
    show 1 ≤ ig (ckL ck fs u ((i : Int) - 1) bl u) u
    omega
  · have hxu : x ≠ u := fun e => hno i (Nat.lt_succ_self i) (by rw [hw, e])
    rw [upC_ne _ hxu]
    have := h.fresh x hx (fun k hk => hno k (by omega))
    unfold ckL
    split
    · rw [upC_ne _ hxu]; exact this
    · exact this
  · by_cases e : l = i
    · subst e
      have hbf : bl = false := by rw [hbl]; exact decide_eq_false (by rintro ⟨_, q⟩; exact q hl.symm)
      have hcu : ckL ck fs u ((l : Int) - 1) bl u = cl0.set u 1 := by
        unfold ckL
        rw [hbf, if_neg (by decide)]
        exact h.fresh u hu (fun k hk => by rw [← hw]; exact hne k hk)
      rcases h.last with ⟨q, _⟩ | ⟨_, r', h2, h3, h4, h5, h6, h7⟩
      · omega
      · have hrr : r = r' := by
          rcases hr with hr | ⟨hr, _⟩
          · rw [h2] at hr; exact (Option.some.inj hr).symm
          · rw [h2] at hr; cases hr
        subst hrr
        have hww : r.ww ≠ u := fun q => hne (l - 1) (by omega) (by rw [← h6, hw, q])
        have : kn = false := by
          rw [hkn, hcu, h3]
          unfold knC
          rw [ig_set0 hu, if_neg (fun q => hww q.symm)]
          have h8 : ¬ (r.wt ≤ 0) := by omega
          simp [hww, h8]
        rw [this]
        simp
    · have := h.cl l hl h0 (by omega) hne
      split <;> omega
end
/-- Two watches, apart. -/
structure TwR (w0 w : World) (F G : Nat → Prop) : Prop where
  dj : ∀ k, F k → ¬ G k
  lo : ∀ k, F k ∨ G k → w0.heap.size ≤ k
  lt : ∀ k, F k ∨ G k → k < w.heap.size
  b : Below w0.heap.size w0 w
section
variable {w0 w w' : World} {F F' G G' : Nat → Prop}
theorem TwR.x (S : TwR w0 w F G) (hT : Tch F w w') (hF : ∀ k, F' k → F k ∨ w.heap.size ≤ k) (hl : ∀ k, F' k → k < w'.heap.size) : TwR w0 w' F' G :=
  ⟨fun k hk q => by
    rcases hF k hk with h | h
    · exact S.dj k h q
    · have := S.lt k (.inr q); omega, fun k hk => by
    rcases hk with hk | hk
    · rcases hF k hk with h | h
      · exact S.lo k (.inl h)
      · exact Nat.le_trans S.b.size h
    · exact S.lo k (.inr hk), fun k hk => by
    rcases hk with hk | hk
    · exact hl k hk
    · exact Nat.lt_of_lt_of_le (S.lt k (.inr hk)) hT.size, S.b.trans (hT.below S.b.size (fun k hk => S.lo k (.inl hk)))⟩
theorem TwR.swap (S : TwR w0 w F G) : TwR w0 w G F := ⟨fun k h q => S.dj k q h, fun k h => S.lo k h.symm, fun k h => S.lt k h.symm, S.b⟩
end
end Go.Proofs.Ytoodifpkconfcaa
