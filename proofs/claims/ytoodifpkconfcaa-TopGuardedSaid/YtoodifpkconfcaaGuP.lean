/- Guarded: plain law. -/
import Derived.Test.YtoodifpkconfcaaHnC
import Derived.Test.YtoodifpkconfcaaLkU
namespace Go.Proofs.Ytoodifpkconfcaa
open Go.RowKit
/-- All that was seen of a place is known to whoever loads it. -/
structure GuI (i : Nat) (ck : Nat → List Int) (fs : Int → Option (List Int)) (nt : Int → Option NtR) : Prop where
  pk : ∀ u, u < 65 → PosK ((i : Int) + 1) (ck u)
  pf : ∀ k c, fs k = some c → PosK ((i : Int) + 1) c
  nt : ∀ p r, nt p = some r → ∃ s, fs p = some s ∧ (r.wr = true → r.ww < 65 ∧ r.wt ≤ ig s r.ww) ∧ (∀ k t, r.rs k = some t → 0 ≤ k → k < 65 → t ≤ ig s k.toNat)
theorem GuI.start : GuI 0 (ckJ 65) (fun _ => none) (fun _ => none) := ⟨fun u hu => ckJ_pos hu, fun k c h => (by cases h), fun p r h => (by cases h)⟩
theorem GuI.skip {i : Nat} {ck : Nat → List Int} {fs : Int → Option (List Int)} {nt : Int → Option NtR} (h : GuI i ck fs nt) : GuI (i + 1) ck fs nt :=
  ⟨fun u hu => (h.pk u hu).mono (by omega), fun k c hc => (h.pf k c hc).mono (by omega), h.nt⟩
/-- Who has loaded a place knows a note of it. -/
def GuK (c : List Int) (r : NtR) : Prop := (r.wr = true → r.ww < 65 ∧ r.wt ≤ ig c r.ww) ∧ (∀ k t, r.rs k = some t → 0 ≤ k → k < 65 → t ≤ ig c k.toNat)
section
variable {i : Nat} {ck : Nat → List Int} {fs : Int → Option (List Int)} {nt : Int → Option NtR}
theorem GuI.loaded (h : GuI i ck fs nt) {u : Nat} (hu : u < 65) (p : Int) : PosK ((i : Int) + 1) (mxC (ck u) (syC fs p)) := (h.pk u hu).mx (PosK.sy (by omega) h.pf p)
theorem GuI.known (h : GuI i ck fs nt) {u : Nat} (hu : u < 65) {p : Int} {r : NtR} (hr : nt p = some r ∨ (nt p = none ∧ r.wr = false ∧ r.rs = fun _ => none)) : GuK (mxC (ck u) (syC fs p)) r := by
  rcases hr with hr | ⟨_, h1, h2⟩
  · obtain ⟨s, e, h1, h2⟩ := h.nt p r hr
    have es : syC fs p = s := by unfold syC; rw [e]; rfl
    have hs := h.pf p s e
    have hk := h.pk u hu
    rw [es]
    refine ⟨fun q => ⟨(h1 q).1, ?_⟩, fun k t q q0 q1 => ?_⟩
    · rw [mxC_ig hk.1 hs.1 (h1 q).1]
      have := (h1 q).2
      omega
    · rw [mxC_ig hk.1 hs.1 (by omega)]
      have := h2 k t q q0 q1
      omega
  · exact ⟨fun q => (by rw [h1] at q; cases q), fun k t q => (by rw [h2] at q; cases q)⟩
theorem GuK.wr {c : List Int} {r : NtR} (h : GuK c r) (u : Nat) : (!r.wr || knC c u r.ww r.wt) = true := by
  cases hw : r.wr with
  | false => rfl
  | true =>
    have := (h.1 hw).2
    unfold knC
    simp [this]
theorem GuK.rs {c : List Int} {r : NtR} (h : GuK c r) (u : Nat) {ks : List Int} (hk : ∀ k ∈ ks, (r.rs k).isSome = true ∧ 0 ≤ k ∧ k < 65) : ks.all (knF c u r.rs) = true := by
  rw [List.all_eq_true]
  intro k q
  obtain ⟨h1, h2, h3⟩ := hk k q
  obtain ⟨t, ht⟩ := Option.isSome_iff_exists.1 h1
  have := h.2 k t ht h2 h3
  unfold knF knC
  rw [ht]
  simp only [Option.getD_some, Bool.or_eq_true, decide_eq_true_eq]
  exact .inr this
theorem GuK.read {c : List Int} {r : NtR} (h : GuK c r) (u : Nat) : GuK c ⟨r.b, r.rb, r.ww, r.wt, r.wr, upO r.rs (u : Int) (ig c u)⟩ := by
  refine ⟨h.1, fun k t q q0 q1 => ?_⟩
  have q : upO r.rs (u : Int) (ig c u) k = some t := q
  by_cases e : k = (u : Int)
  · subst e
    rw [upO_self] at q
    obtain rfl := Option.some.inj q
    rw [Int.toNat_natCast]
    exact Int.le_refl _
  · rw [upO_ne _ e] at q
    exact h.2 k t q q0 q1
theorem GuK.write {u : Nat} (hu : u < 65) (c : List Int) (b rb : Nat) : GuK c ⟨b, rb, u, ig c u, true, fun _ => none⟩ := ⟨fun _ => ⟨hu, Int.le_refl _⟩, fun k t q => (by cases q)⟩
/-- A turn. -/
theorem GuI.turn (h : GuI i ck fs nt) {u : Nat} (hu : u < 65) {p : Int} {n1 : Int → Option NtR} (hn : ∀ q, q ≠ p → n1 q = nt q) (hp : ∀ r, n1 p = some r → GuK (mxC (ck u) (syC fs p)) r) :
    GuI (i + 1) (upC (upC ck u (mxC (ck u) (syC fs p))) u (stepC (mxC (ck u) (syC fs p)) u)) (upO fs p (mxC (ck u) (syC fs p))) n1 := by
  have hl := h.loaded hu p
  refine ⟨fun x hx => ?_, fun k c hc => ?_, fun q r hr => ?_⟩
  · refine PosK.up (PosK.up (fun y hy => (h.pk y hy).mono (by omega)) (hl.mono (by omega))) ((hl.step hu).mono (by omega)) x hx
  · by_cases e : k = p
    · subst e
      rw [upO_self] at hc
      obtain rfl := Option.some.inj hc
      exact hl.mono (by omega)
    · rw [upO_ne fs e] at hc
      exact (h.pf k c hc).mono (by omega)
  · by_cases e : q = p
    · subst e
      have := hp r hr
      exact ⟨_, upO_self _ _ _, this⟩
    · rw [hn q e] at hr
      obtain ⟨s, e1, e2⟩ := h.nt q r hr
      exact ⟨s, by rw [upO_ne fs e]; exact e1, e2⟩
end
end Go.Proofs.Ytoodifpkconfcaa
