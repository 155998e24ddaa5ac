/- TopGuarded: walk. -/
import Derived.Test.YtoodifpkconfcaaGuP
import Derived.Test.YtoodifpkconfcaaTop10
import Derived.Test.YtoodifpkconfcaaEpR
namespace Go.Proofs.Ytoodifpkconfcaa
open Go.RowKit
/-- A table and a watch, apart. -/
def GuS (w0 W : World) (d : Option (Nat × Array Value)) (t hb wb xb xs xd N M : Nat) (f g : Int → Option Int) (Q : (Nat → List Int) → (Int → Option (List Int)) → (Int → Option NtR) → Prop) : Prop :=
  ∃ (F : Nat → Prop) (ck : Nat → List Int) (fs : Int → Option (List Int)) (nt : Int → Option NtR) (sl : Value),
    LkF W t hb wb M f g ∧ RcS W F xb xs xd ck fs nt sl 0 N ∧ (∀ k, F k → w0.heap.size ≤ k) ∧ (w0.heap.size ≤ t ∧ w0.heap.size ≤ hb ∧ w0.heap.size ≤ wb) ∧ (¬ F t ∧ ¬ F hb ∧ ¬ F wb) ∧ Below w0.heap.size w0 W ∧ (∀ q cs, d = some (q, cs) → Blk W q 39 cs ∧ ¬ F q ∧ ¬ lkS hb wb q) ∧ Q ck fs nt
section
variable {w0 W W' : World} {d : Option (Nat × Array Value)} {t hb wb xb xs xd N M M' : Nat} {f g f' g' : Int → Option Int} {Q : (Nat → List Int) → (Int → Option (List Int)) → (Int → Option NtR) → Prop}
theorem GuS.below (S : GuS w0 W d t hb wb xb xs xd N M f g Q) (h : Below W.heap.size W W') : GuS w0 W' d t hb wb xb xs xd N M f g Q := by
  obtain ⟨F, ck, fs, nt, sl, h1, h2, h3, h4, h5, h6, h8, h7⟩ := S
  exact ⟨F, ck, fs, nt, sl, h1.below h, h2.below h, h3, h4, h5, h6.trans (h.mono h6.size), fun q cs e => ⟨(h8 q cs e).1.below h (h8 q cs e).1.lt, (h8 q cs e).2⟩, h7⟩
theorem GuS.lk (S : GuS w0 W d t hb wb xb xs xd N M f g Q) : LkF W t hb wb M f g := by
  obtain ⟨F, ck, fs, nt, sl, h1, _⟩ := S
  exact h1
theorem GuS.b (S : GuS w0 W d t hb wb xb xs xd N M f g Q) : Below w0.heap.size w0 W := by
  obtain ⟨F, ck, fs, nt, sl, h1, h2, h3, h4, h5, h6, h8, h7⟩ := S
  exact h6
/-- The table turned. -/
theorem GuS.turn (S : GuS w0 W d t hb wb xb xs xd N M f g Q) (hL : LkF W' t hb wb M' f' g') (hT : Tch (lkS hb wb) W W') : GuS w0 W' d t hb wb xb xs xd N M' f' g' Q := by
  obtain ⟨F, ck, fs, nt, sl, h1, h2, h3, h4, h5, h6, h8, h7⟩ := S
  refine ⟨F, ck, fs, nt, sl, hL, h2.keep hT (fun x hx q => ?_), h3, h4, h5, h6.trans (hT.below h6.size (fun x hx => ?_)), fun q cs e => ⟨(h8 q cs e).1.tch hT (h8 q cs e).2.2, (h8 q cs e).2⟩, h7⟩
  · rcases hx with rfl | rfl
    · exact h5.2.1 q
    · exact h5.2.2 q
  · rcases hx with rfl | rfl
    · exact h4.2.1
    · exact h4.2.2
/-- The watch turned. -/
theorem GuS.seen {F F' : Nat → Prop} {N' : Nat} {ck' : Nat → List Int} {fs' : Int → Option (List Int)} {nt' : Int → Option NtR} {Q' : (Nat → List Int) → (Int → Option (List Int)) → (Int → Option NtR) → Prop}
    (h1 : LkF W t hb wb M f g) (h3 : ∀ k, F k → w0.heap.size ≤ k) (h4 : w0.heap.size ≤ t ∧ w0.heap.size ≤ hb ∧ w0.heap.size ≤ wb) (h5 : ¬ F t ∧ ¬ F hb ∧ ¬ F wb) (h6 : Below w0.heap.size w0 W) (h8 : ∀ q cs, d = some (q, cs) → Blk W q 39 cs ∧ ¬ F q ∧ ¬ lkS hb wb q) {sl : Value}
    (hS : RcS W' F' xb xs xd ck' fs' nt' sl 0 N') (hT : Tch F W W') (hF : ∀ x, F' x → F x ∨ W.heap.size ≤ x) (hQ : Q' ck' fs' nt') : GuS w0 W' d t hb wb xb xs xd N' M f g Q' := by
  have hl := h1.lt
  have nf : ∀ x, x < W.heap.size → ¬ F x → ¬ F' x := fun x hx hn q => by
    rcases hF x q with q | q
    · exact hn q
    · omega
  exact ⟨F', ck', fs', nt', sl, h1.keep hT h5, hS, fun k q => by
    rcases hF k q with q | q
    · exact h3 k q
    · exact Nat.le_trans h6.size q, h4, ⟨nf t hl.1 h5.1, nf hb hl.2.1 h5.2.1, nf wb hl.2.2 h5.2.2⟩, h6.trans (hT.below h6.size h3), fun q cs e => ⟨(h8 q cs e).1.tch hT (h8 q cs e).2.1, nf q (h8 q cs e).1.lt (h8 q cs e).2.1, (h8 q cs e).2.2⟩, hQ⟩
/-- What was loaded is at hand. -/
def GuQ (i u : Nat) (p : Int) (ck : Nat → List Int) (fs : Int → Option (List Int)) (nt : Int → Option NtR) : Prop :=
  ∃ ck0 nt0, ck = upC ck0 u (mxC (ck0 u) (syC fs p)) ∧ GuI i ck0 fs nt0 ∧ (∀ q, q ≠ p → nt q = nt0 q) ∧ (∀ r, nt p = some r → GuK (ck u) r)
theorem GuQ.note {i u : Nat} {p : Int} {ck : Nat → List Int} {fs : Int → Option (List Int)} {nt : Int → Option NtR} (h : GuQ i u p ck fs nt) {r : NtR} (hr : nt p = some r ∨ (nt p = none ∧ r.wr = false ∧ r.rs = fun _ => none)) : GuK (ck u) r := by
  obtain ⟨ck0, nt0, _, _, _, h4⟩ := h
  rcases hr with hr | ⟨_, h1, h2⟩
  · exact h4 r hr
  · exact ⟨fun q => (by rw [h1] at q; cases q), fun k t q => (by rw [h2] at q; cases q)⟩
theorem GuQ.next {i u : Nat} {p : Int} {ck : Nat → List Int} {fs : Int → Option (List Int)} {nt : Int → Option NtR} (h : GuQ i u p ck fs nt) {r : NtR} (hr : GuK (ck u) r) : GuQ i u p ck fs (upO nt p r) := by
  obtain ⟨ck0, nt0, h1, h2, h3, h4⟩ := h
  exact ⟨ck0, nt0, h1, h2, fun q hq => by rw [upO_ne nt hq]; exact h3 q hq, fun x hx => by
    rw [upO_self] at hx
    obtain rfl := Option.some.inj hx
    exact hr⟩
theorem GuQ.pos {i u : Nat} {p : Int} {ck : Nat → List Int} {fs : Int → Option (List Int)} {nt : Int → Option NtR} (h : GuQ i u p ck fs nt) (hu : u < 65) : PosK ((i : Int) + 1) (ck u) := by
  obtain ⟨ck0, nt0, h1, h2, _⟩ := h
  rw [h1, upC_self]
  exact h2.loaded hu p
variable {i u : Nat} {p : Int}
theorem gu_load (S : GuS w0 W d t hb wb xb xs xd N M f g (GuI i)) (hu : u < 65) (hp : 0 ≤ p ∧ p ≤ 4096) :
    Calls Try.prog 10 #[.pointer (some ⟨xb, 0, none⟩), .int .i64 ((u : Nat) : Int), .int .i64 p] W (fun e w' => e = .returned (.tuple #[]) ∧ GuS w0 w' d t hb wb xb xs xd N M f g (GuQ i u p)) := by
  obtain ⟨F, ck, fs, nt, sl, h1, h2, h3, h4, h5, h6, h8, h7⟩ := S
  refine (rc_load h2 u hu p (wf_lk hp)).mono ?_
  rintro e w' ⟨rfl, q1, q2⟩
  exact ⟨rfl, GuS.seen h1 h3 h4 h5 h6 h8 q1 q2 (fun _ q => .inl q) ⟨ck, nt, rfl, h7, fun _ _ => rfl, fun r hr => by rw [upC_self]; exact h7.known hu (.inl hr)⟩⟩
theorem gu_read (S : GuS w0 W d t hb wb xb xs xd N M f g (GuQ i u p)) (hu : u < 65) (hp : 0 ≤ p ∧ p ≤ 4096) (hi : i ≤ 60) (hN : N ≤ 1000) :
    Calls Try.prog 13 #[.pointer (some ⟨xb, 0, none⟩), .int .i64 ((u : Nat) : Int), .int .i64 p] W (fun e w' => e = .returned (.bool true) ∧ GuS w0 w' d t hb wb xb xs xd (N + 2) M f g (GuQ i u p)) := by
  obtain ⟨F, ck, fs, nt, sl, h1, h2, h3, h4, h5, h6, h8, h7⟩ := S
  have hb := (h7.pos hu).2 u hu
  refine (rc_read h2 (by omega) (by omega) u hu p (wf_lk hp) (by omega)).mono ?_
  rintro e w' ⟨F', sl', r, kn, rfl, q1, q2, q3, q4, q5⟩
  have hk := h7.note q1
  obtain rfl : kn = true := q2.trans (hk.wr u)
  rw [if_pos rfl] at q3
  exact ⟨rfl, GuS.seen h1 h3 h4 h5 h6 h8 q3 q4 q5 (h7.next (hk.read u))⟩
theorem gu_write (S : GuS w0 W d t hb wb xb xs xd N M f g (GuQ i u p)) (hu : u < 65) (hp : 0 ≤ p ∧ p ≤ 4096) (hN : N ≤ 1000) :
    Calls Try.prog 14 #[.pointer (some ⟨xb, 0, none⟩), .int .i64 ((u : Nat) : Int), .int .i64 p] W (fun e w' => e = .returned (.bool true) ∧ GuS w0 w' d t hb wb xb xs xd (N + 1) M f g (GuQ i u p)) := by
  obtain ⟨F, ck, fs, nt, sl, h1, h2, h3, h4, h5, h6, h8, h7⟩ := S
  refine (rc_write h2 (by omega) (by omega) u hu p (wf_lk hp)).mono ?_
  rintro e w' hq
  obtain ⟨F', sl', r, kn, ks, rfl, q1, q2, q3, q4, q5, q6⟩ := hq
  have hk := h7.note q1
  obtain rfl : kn = true := by rw [q3, hk.wr u, hk.rs u q2]; rfl
  rw [if_pos rfl] at q4
  exact ⟨rfl, GuS.seen h1 h3 h4 h5 h6 h8 q4 q5 q6 (h7.next (GuK.write hu _ _ _))⟩
theorem gu_store (S : GuS w0 W d t hb wb xb xs xd N M f g (GuQ i u p)) (hu : u < 65) (hp : 0 ≤ p ∧ p ≤ 4096) (hi : i ≤ 60) (hN : N ≤ 1000) :
    Calls Try.prog 8 #[.pointer (some ⟨xb, 0, none⟩), .int .i64 ((u : Nat) : Int), .int .i64 p] W (fun e w' => e = .returned (.tuple #[]) ∧ GuS w0 w' d t hb wb xb xs xd (N + 1) M f g (GuI (i + 1))) := by
  obtain ⟨F, ck, fs, nt, sl, h1, h2, h3, h4, h5, h6, h8, h7⟩ := S
  have hb := (h7.pos hu).2 u hu
  obtain ⟨ck0, nt0, rfl, k1, k2, k3⟩ := h7
  refine (rc_store h2 u hu p (wf_lk hp) (by omega) (by omega)).mono ?_
  rintro e w' ⟨rfl, q1, q2⟩
  rw [upC_self] at q1 k3
  exact ⟨rfl, GuS.seen h1 h3 h4 h5 h6 h8 q1 q2 (fun _ q => .inl q) (k1.turn hu k2 k3)⟩
end
end Go.Proofs.Ytoodifpkconfcaa
