/- Handed on: plain law of a round. -/
import Derived.Test.YtoodifpkconfcaaHnP
import Derived.Test.YtoodifpkconfcaaSub
namespace Go.Proofs.Ytoodifpkconfcaa
open Go.RowKit
theorem elemIH : ∀ w, (sizeOf (Try.prog.elem 26)).run Try.prog w = .ok 1 w := fun w => by kernel_rfl
section
variable {w0 w w' : World} {F F' G : Nat → Prop}
/-- A step of the one watch keeps the other. -/
theorem TwR.stepx (S : TwR w0 w F G) {xb xs xd yb ys yd : Nat} {ck ck' : Nat → List Int} {fs fs' : Int → Option (List Int)} {nt nt' : Int → Option NtR} {sl sl' : Value} {m m' N N' : Nat} (hx : RcS w' F' xb xs xd ck fs nt sl m N) (hy : RcS w G yb ys yd ck' fs' nt' sl' m' N') (hT : Tch F w w') (hF : ∀ k, F' k → F k ∨ w.heap.size ≤ k) :
    TwR w0 w' F' G ∧ RcS w' G yb ys yd ck' fs' nt' sl' m' N' := ⟨S.x hT hF hx.ltF, hy.keep hT S.dj⟩
end
theorem wf_small {z : Int} (h : -100 ≤ z ∧ z ≤ 100) : (Lit.int .i64 z).wf = true := by simp [Lit.wf, IntKind.min, IntKind.max, IntKind.signed, IntKind.bits]; omega
def HnS (w0 W : World) (ws : List Int) (L : Int) (xb xs xd yb ys yd i : Nat) : Prop :=
  ∃ (F G : Nat → Prop) (ck : Nat → List Int) (fs : Int → Option (List Int)) (nt : Int → Option NtR) (sl : Value) (N : Nat) (ck' : Nat → List Int) (fs' : Int → Option (List Int)) (nt' : Int → Option NtR) (sl' : Value) (m N' : Nat),
    RcS W F xb xs xd ck fs nt sl 0 N ∧ RcS W G yb ys yd ck' fs' nt' sl' m N' ∧ TwR w0 W F G ∧ HxI i ck fs nt ∧ HyI ws L i ck' fs' nt' m ∧ N ≤ 4 * i ∧ N' ≤ 4 * i
/-- .. behind the loads, of x or of both. -/
def HnL (w0 W : World) (ws : List Int) (L : Int) (xb xs xd yb ys yd i u : Nat) (b : Bool) : Prop :=
  ∃ (F G : Nat → Prop) (ck : Nat → List Int) (fs : Int → Option (List Int)) (nt : Int → Option NtR) (sl : Value) (N : Nat) (ck' : Nat → List Int) (fs' : Int → Option (List Int)) (nt' : Int → Option NtR) (sl' : Value) (m N' : Nat),
    RcS W F xb xs xd (ckL ck fs u ((i : Int) - 1) (decide (0 < i))) fs nt sl 0 N ∧ RcS W G yb ys yd (ckL ck' fs' u ((i : Int) - 1) b) fs' nt' sl' m N' ∧ TwR w0 W F G ∧ HxI i ck fs nt ∧ HyI ws L i ck' fs' nt' m ∧ N ≤ 4 * i ∧ N' ≤ 4 * i
section
variable {w0 W : World} {ws : List Int} {L : Int} {xb xs xd yb ys yd i : Nat}
theorem HnS.zero (h : HnS w0 W ws L xb xs xd yb ys yd i) (h0 : ¬ 0 < i) (u : Nat) : HnL w0 W ws L xb xs xd yb ys yd i u (decide (0 < i ∧ (i : Int) ≠ L)) := by
  obtain ⟨F, G, ck, fs, nt, sl, N, ck', fs', nt', sl', m, N', h1, h2, h3⟩ := h
  refine ⟨F, G, ck, fs, nt, sl, N, ck', fs', nt', sl', m, N', ?_, ?_, h3⟩
  · unfold ckL; rw [decide_eq_false h0, if_neg (by decide)]; exact h1
  · unfold ckL; rw [decide_eq_false (fun q => h0 q.1), if_neg (by decide)]; exact h2
theorem HnS.loadx (h : HnS w0 W ws L xb xs xd yb ys yd i) (h0 : 0 < i) (hi : i ≤ 40) {u : Nat} (hu : u < 65) :
    Calls Try.prog 10 #[.pointer (some ⟨xb, 0, none⟩), .int .i64 ((u : Nat) : Int), .int .i64 ((i : Int) - 1)] W (fun e w' => e = .returned (.tuple #[]) ∧ HnL w0 w' ws L xb xs xd yb ys yd i u false) := by
  obtain ⟨F, G, ck, fs, nt, sl, N, ck', fs', nt', sl', m, N', h1, h2, h3, h4⟩ := h
  refine (rc_load h1 u hu ((i : Int) - 1) (wf_small (by omega))).mono ?_
  rintro e w' ⟨rfl, hS, hT⟩
  obtain ⟨k1, k2⟩ := h3.stepx hS h2 hT (fun _ q => .inl q)
  refine ⟨rfl, F, G, ck, fs, nt, sl, N, ck', fs', nt', sl', m, N', ?_, ?_, k1, h4⟩
  · unfold ckL; rw [decide_eq_true h0, if_pos rfl]; exact hS
  · unfold ckL; rw [if_neg (by decide)]; exact k2
theorem HnL.loady {u : Nat} (h : HnL w0 W ws L xb xs xd yb ys yd i u false) (h0 : 0 < i) (hi : i ≤ 40) (hu : u < 65) :
    Calls Try.prog 10 #[.pointer (some ⟨yb, 0, none⟩), .int .i64 ((u : Nat) : Int), .int .i64 ((i : Int) - 1)] W (fun e w' => e = .returned (.tuple #[]) ∧ HnL w0 w' ws L xb xs xd yb ys yd i u true) := by
  obtain ⟨F, G, ck, fs, nt, sl, N, ck', fs', nt', sl', m, N', h1, h2, h3, h4⟩ := h
  unfold ckL at h2
  rw [if_neg (by decide)] at h2
  refine (rc_load h2 u hu ((i : Int) - 1) (wf_small (by omega))).mono ?_
  rintro e w' ⟨rfl, hS, hT⟩
  obtain ⟨k1, k2⟩ := h3.swap.stepx hS h1 hT (fun _ q => .inl q)
  refine ⟨rfl, F, G, ck, fs, nt, sl, N, ck', fs', nt', sl', m, N', k2, ?_, k1.swap, h4⟩
  unfold ckL; rw [if_pos rfl]; exact hS
end
theorem mxK {r : NtR} {u : Nat} {t : Int} {ks : List Int} (h : r.rs = upO (fun _ => none) (u : Int) t) (hk : ∀ k ∈ ks, (r.rs k).isSome = true ∧ 0 ≤ k ∧ k < 65) (c : List Int) : ks.all (knF c u r.rs) = true := by
  rw [List.all_eq_true]
  intro k q
  obtain ⟨h1, h2, _⟩ := hk k q
  rw [h] at h1
  by_cases e : k = (u : Int)
  · subst e
    unfold knF knC
    simp
  · rw [upO_ne _ e] at h1; cases h1
theorem all_take_succ (ws : List Int) (z : Int) {k : Nat} (hk : k < ws.length) : ((ws.take (k + 1)).all fun x => !(x == z)) = (((ws.take k).all fun x => !(x == z)) && !(ig ws k == z)) := by
  have e : ws.take (k + 1) = ws.take k ++ [ig ws k] := by
    rw [List.take_succ_eq_append_getElem hk]
    congr 2
    simp [ig, List.getD_eq_getElem?_getD, hk]
  rw [e, List.all_append]
  simp
/-- Whether one is new, so far. -/
def clK (ws : List Int) (l k : Nat) : Bool := (ws.take k).all fun x => !(x == ig ws l)
theorem clK_zero (ws : List Int) (l : Nat) : clK ws l 0 = true := rfl
theorem clK_succ {ws : List Int} {l k : Nat} (hk : k < ws.length) : clK ws l (k + 1) = (clK ws l k && !(ig ws k == ig ws l)) := all_take_succ ws (ig ws l) hk
theorem all_take_ne {ws : List Int} {z : Int} {l : Nat} (hl : l ≤ ws.length) (h : ((ws.take l).all fun x => !(x == z)) = true) : ∀ k, k < l → ig ws k ≠ z := fun k hk e => by
  rw [List.all_eq_true] at h
  have := h (ig ws k) (by
    rw [List.mem_iff_getElem?]
    refine ⟨k, ?_⟩
    rw [List.getElem?_take, if_pos hk]
    simp [ig, List.getD_eq_getElem?_getD, show k < ws.length by omega])
  rw [e] at this
  simp at this
end Go.Proofs.Ytoodifpkconfcaa
