/- TopStale's state: an arena, an id map, the stale refs. -/
import Derived.Test.YthcmajeamandfaaShB
namespace Go.Proofs.Ythcmajeamandfaa
open Go.RowKit
def refL (x : Nm) : List Value := [.int .i64 x.slot, .int .i64 x.gen]
def flatR (l : List Nm) : List Value := (l.map refL).flatten
theorem flatR_len (l : List Nm) : (flatR l).length = l.length * 2 := by
  unfold flatR
  rw [flat_len (sz := 2) _ (fun c hc => by obtain ⟨x, _, rfl⟩ := List.mem_map.1 hc; rfl), List.length_map]
theorem flatR_snoc (l : List Nm) (x : Nm) : flatR (l ++ [x]) = flatR l ++ refL x := by unfold flatR; simp
theorem info_refR : (Try.prog.info? 32).map (fun i => (i.zero, i.size, i.bytes)) = some (some (.agg #[.int .i64 0, .int .i64 0]), 2, 16) := by kernel_rfl
theorem run_refR (w : World) (x : Nm) : (Instr.buildSlice 45 1 #[(0, .agg #[.int .i64 x.slot, .int .i64 x.gen])]).run Try.prog w = .ok (.slice (some ⟨w.heap.size, 0, none⟩) 1 1) (w.alloc (.cells (refC x) 32)) := by
  obtain ⟨i, hi, hz, hz1, hz2⟩ := info_parts info_refR
  refine Go.run_buildSlice w _ _ 1 _ _ i (.agg #[.int .i64 0, .int .i64 0]) Try.underlying45 hi hz (by rw [hz1]; decide) (by rw [hz1]; decide) ?_
  rw [hz1]; kernel_rfl
theorem ref_loadR {w : World} {b o : Nat} {x : Nm} (h : w.rangeAt b o (refL x)) : (Instr.loadAt 32 (.pointer (some ⟨b, o, none⟩))).run Try.prog w = .ok (refV x) w := range_load (xs := refC x) h Try.underlying32 rfl refTN
/-- A slice of refs. -/
def RfsAt (w : World) (B : Nat) (A : Option Addr) (n : Nat) (l : List Nm) : Prop := Rs w B A n 2 (l.map refL)
theorem RfsAt.at_ {w : World} {B : Nat} {A : Option Addr} {n : Nat} {l : List Nm} (h : RfsAt w B A n l) {i : Nat} (hi : i < n) : ∃ b o x, A = some ⟨b, o, none⟩ ∧ b < B ∧ x ∈ l ∧ w.rangeAt b (o + i * 2) (refL x) := by
  obtain ⟨b, o, c, e, hb, hc, _, hr⟩ := Rs.at_ h hi
  rw [List.getElem?_map] at hc
  obtain ⟨d, hd, rfl⟩ := Option.map_eq_some_iff.1 hc
  exact ⟨b, o, d, e, hb, List.mem_of_getElem? hd, hr⟩
theorem rfs_of_own {w : World} {base n c : Nat} {A : Option Addr} {l : List Nm} (h : w.ownsRow base 32 2 (.slice A n c) n (flatR l)) : RfsAt w w.heap.size A n l := by
  have hl : l.length = n := by have := h.1; rw [flatR_len] at this; omega
  rcases Nat.eq_zero_or_pos n with h0 | h0
  · subst h0
    have : l = [] := List.eq_nil_of_length_eq_zero hl
    subst this
    exact ⟨rfl, by simp, fun q => absurd q (by omega)⟩
  · obtain ⟨g, cap, ev, _, _, hr⟩ := Rs.of_own (css := l.map refL) h (fun c hc => by obtain ⟨x, _, rfl⟩ := List.mem_map.1 hc; rfl) (by simpa using hl) h0
    injection ev with e1 _ _
    subst e1
    exact hr
/-- An arena, an id map, the stale refs. -/
structure StS (w0 w : World) (ap sb fb n c : Nat) (st gn : Nat → Int) (fr : List Int) (ct : Nat → Int) (mp sh N : Nat) (bs : List Nat) (E : List Nm) (ver : Int) (A : Option Addr) (q d : Nat) (stale : List Nm) : Prop where
  t : BtS w0 w ap sb fb n c st gn fr ct mp sh 8 N bs E ver
  r : w.ownsRow w0.heap.size 32 2 (.slice A q d) q (flatR stale)
  d : ∀ k, (Value.slice A q d).ownBlock = some k → ¬ (arF ap sb fb k ∨ idF mp bs k ∨ k = sh)
section
variable {w0 w w' : World} {ap sb fb n c : Nat} {st gn : Nat → Int} {fr : List Int} {ct : Nat → Int} {mp sh N : Nat} {bs : List Nat} {E : List Nm} {ver : Int} {A : Option Addr} {q d : Nat} {stale : List Nm}
theorem StS.below (S : StS w0 w ap sb fb n c st gn fr ct mp sh N bs E ver A q d stale) (hb : Below w.heap.size w w') : StS w0 w' ap sb fb n c st gn fr ct mp sh N bs E ver A q d stale :=
  ⟨S.t.below hb, ownsRow_tch S.r (Tch.of_below (S := fun _ => False) hb) (fun _ _ q => q), S.d⟩
theorem StS.arena {fb' c' : Nat} {st' gn' : Nat → Int} {fr' : List Int} {ct' : Nat → Int} (S : StS w0 w ap sb fb n c st gn fr ct mp sh N bs E ver A q d stale) (hT : Tch (arF ap sb fb) w w') (hA : ArS w' ap sb fb' n c' st' gn' fr' ct') (hf : fb' = fb ∨ w.heap.size ≤ fb') : StS w0 w' ap sb fb' n c' st' gn' fr' ct' mp sh N bs E ver A q d stale :=
  ⟨S.t.arena hT hA hf, ownsRow_tch S.r hT (fun k hk q => S.d k hk (.inl q)), fun k hk q => by
    have hlt := (S.r.lt k hk).2
    rcases q with q | q
    · rcases q with q | q | q
      · exact S.d k hk (.inl (.inl q))
      · exact S.d k hk (.inl (.inr (.inl q)))
      · rcases hf with rfl | hf
        · exact S.d k hk (.inl (.inr (.inr q)))
        · omega
    · exact S.d k hk (.inr q)⟩
theorem StS.map {N' : Nat} {E' : List Nm} {ver' : Int} (S : StS w0 w ap sb fb n c st gn fr ct mp sh N bs E ver A q d stale) (hT : Tch (idF mp bs) w w') (hM : IdS w' mp sh 8 N' bs E' ver') : StS w0 w' ap sb fb n c st gn fr ct mp sh N' bs E' ver' A q d stale :=
  ⟨S.t.map hT hM, ownsRow_tch S.r hT (fun k hk q => S.d k hk (.inr (.inl q))), S.d⟩
theorem StS.lt_all (S : StS w0 w ap sb fb n c st gn fr ct mp sh N bs E ver A q d stale) {x : Nat} (hx : arF ap sb fb x ∨ idF mp bs x ∨ x = sh) : x < w.heap.size := by
  rcases hx with hx | hx
  · exact S.t.a.lt_all hx
  · exact S.t.m.lt_all hx
theorem StS.push {g d' : Nat} {x : Nm} (S : StS w0 w ap sb fb n c st gn fr ct mp sh N bs E ver A q d stale) (hg : w.grownBy w' (Value.slice A q d).ownBlock) (hb : Below w0.heap.size w w') (hat : (Value.slice A q d).ownBlock = some g ∨ w.heap.size ≤ g) (ho : w'.ownsRow w0.heap.size 32 2 (.slice (some ⟨g, 0, none⟩) (q + 1) d') (q + 1) (flatR (stale ++ [x]))) :
    StS w0 w' ap sb fb n c st gn fr ct mp sh N bs E ver (some ⟨g, 0, none⟩) (q + 1) d' (stale ++ [x]) := by
  have hT := grownBy_tch hg
  refine ⟨⟨S.t.a.keep hT (fun x hx q => S.d x hx.symm (.inl q)), S.t.m.keep hT (fun x hx => ⟨fun e => S.d x hx.symm (.inr (.inl (.inl e))), fun e => S.d x hx.symm (.inr (.inr e)), fun e => S.d x hx.symm (.inr (.inl (.inr e)))⟩), S.t.dj, S.t.lo, S.t.b.trans hb⟩, ho, fun k hk q => ?_⟩
  injection hk with hk
  subst hk
  rcases hat with h | h
  · exact S.d _ h q
  · have := S.lt_all q
    exact absurd this (Nat.not_lt.2 h)
end
end Go.Proofs.Ythcmajeamandfaa
