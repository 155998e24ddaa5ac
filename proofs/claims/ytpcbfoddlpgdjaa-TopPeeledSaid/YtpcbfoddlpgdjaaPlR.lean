/- Planes: the ring from the head on. -/
import Derived.Test.YtpcbfoddlpgdjaaPlF
import Derived.Test.YtpcbfoddlpgdjaaPlM
namespace Go.Proofs.Ytpcbfoddlpgdjaa
open Go.RowKit Go.Maps Go.ChangeMaps Go.MapKept
theorem nodup_le : ∀ (n : Nat) (l : List Int), l.Nodup → (∀ x ∈ l, ∃ i : Nat, i < n ∧ x = i) → l.length ≤ n
  | 0, l, _, h => by
    cases l with
    | nil => exact Nat.le_refl _
    | cons a l => obtain ⟨i, hi, _⟩ := h a (List.mem_cons_self ..); omega
  | n + 1, l, hn, h => by
    have h1 : l.length = (l.filter (fun x => x == (n : Int))).length + (l.filter (fun x => !(x == (n : Int)))).length := by
      clear hn h
      induction l with
      | nil => rfl
      | cons a l ih =>
        cases e : a == (n : Int) <;> simp [e, ih] <;> omega
    have h2 : (l.filter (fun x => x == (n : Int))).length ≤ 1 := by
      rw [← List.countP_eq_length_filter]
      exact List.nodup_iff_count.1 hn (n : Int)
    have h3 := nodup_le n (l.filter (fun x => !(x == (n : Int)))) (hn.filter _) (fun x hx => by
      rw [List.mem_filter] at hx
      obtain ⟨i, hi, rfl⟩ := h x hx.1
      have : ¬ ((i : Int) = n) := by simpa using hx.2
      exact ⟨i, by omega, rfl⟩)
    omega
/-- From a slot on, as long as slots are there, and new. -/
def ringGo (ns : List ND) : Nat → List Int → Int → List Int
  | 0, out, _ => out
  | f + 1, out, at_ => if thB ns at_ && !hasI out at_ then ringGo ns f (out ++ [at_]) (nAt ns at_.toNat).next else out
def ringI (ns : List ND) : List Int := if ns.length = 0 then [] else ringGo ns (ns.length + 1) [] (nAt ns 0).next
/-- What has been met. -/
structure RingSt (ns : List ND) (out : List Int) (at_ : Int) : Prop where
  nd : out.Nodup
  th : ∀ x ∈ out, thB ns x = true
  eq : ringI ns = ringGo ns (ns.length + 1 - out.length) out at_
  wf : (Lit.int .i64 at_).wf = true
theorem RingSt.len {ns : List ND} {out : List Int} {at_ : Int} (h : RingSt ns out at_) : out.length ≤ ns.length := nodup_le _ _ h.nd fun x hx => by
  obtain ⟨i, rfl, hi⟩ := thB_nat_iff.1 (h.th x hx)
  exact ⟨i, (thN_iff.1 hi).2.1, rfl⟩
theorem RingSt.step {ns : List ND} {out : List Int} {at_ : Int} (h : RingSt ns out at_) (ht : thB ns at_ = true) (hh : hasI out at_ = false) (hw : (Lit.int .i64 (nAt ns at_.toNat).next).wf = true) : RingSt ns (out ++ [at_]) (nAt ns at_.toNat).next := by
  have hl := h.len
  have hni : at_ ∉ out := fun q => by rw [hasI_iff.2 q] at hh; cases hh
  refine ⟨?_, fun x hx => ?_, ?_, hw⟩
  · rw [List.nodup_append]
    refine ⟨h.nd, by simp, fun a ha b hb => ?_⟩
    simp at hb
    subst hb
    exact fun e => hni (e ▸ ha)
  · rcases List.mem_append.1 hx with hx | hx
    · exact h.th x hx
    · simp at hx; rw [hx]; exact ht
  · have he := h.eq
    rw [show ns.length + 1 - out.length = (ns.length + 1 - (out ++ [at_]).length) + 1 by rw [List.length_append, List.length_singleton]; omega] at he
    rw [he]
    show (if thB ns at_ && !hasI out at_ then _ else _) = _
    rw [ht, hh]
    rfl
theorem RingSt.stop {ns : List ND} {out : List Int} {at_ : Int} (h : RingSt ns out at_) (ht : (thB ns at_ && !hasI out at_) = false) : ringI ns = out := by
  have hl := h.len
  have he := h.eq
  rw [show ns.length + 1 - out.length = (ns.length - out.length) + 1 by omega] at he
  rw [he]
  show (if thB ns at_ && !hasI out at_ then _ else _) = _
  rw [ht]
  rfl
theorem RingSt.start {ns : List ND} (h : ns.length ≠ 0) (hw : (Lit.int .i64 (nAt ns 0).next).wf = true) : RingSt ns [] (nAt ns 0).next :=
  ⟨by simp, by simp, by unfold ringI; rw [if_neg h]; rfl, hw⟩
theorem PgAt.wfn {w : World} {B : Nat} {A : Option Addr} {n c : Nat} {ns : List ND} (h : PgAt w B A n c ns) {i : Nat} (hi : i < n) : (Lit.int .i64 (nAt ns i).next).wf = true := by
  obtain ⟨_, _, d, _, _, hd, _, hn⟩ := h.node hi
  rw [nAt_of hd]
  exact hn.2.2.2.2.2.2.2.1
def lenOf (v : Value) : Nat := match v with | .slice _ n _ => n | _ => 0
/-- A cell of a node. -/
theorem PgAt.next {w : World} {B : Nat} {A : Option Addr} {n c : Nat} {ns : List ND} (h : PgAt w B A n c ns) {i : Nat} (hi : i < n) : ∃ b o, A = some ⟨b, o, none⟩ ∧ b < B ∧ w.cell? ⟨b, o + i * 7 + 5, none⟩ = some (.int .i64 (nAt ns i).next) := by
  obtain ⟨b, o, d, e, hb, hd, hr, _⟩ := h.node hi
  rw [nAt_of hd]
  exact ⟨b, o, e, hb, hr 5 _ rfl⟩
end Go.Proofs.Ytpcbfoddlpgdjaa
