/- What is touched; blocks written whole. (EpM imports it, too.) -/
import Derived.Test.YtillmlaoppibfaaDoorMem
import Derived.Laws.IdiomCopy
namespace Go.Proofs.YtillmlaoppibfaaDoor
open Go.RowKit
/-- Blocks that are not of S are as they were. -/
structure Tch (S : Nat → Prop) (w w' : World) : Prop where
  os : w'.os = w.os
  tape : w'.tape = w.tape
  output : w'.output = w.output
  size : w.heap.size ≤ w'.heap.size
  block : ∀ k, k < w.heap.size → ¬ S k → w'.heap[k]? = w.heap[k]?
theorem Tch.refl (S : Nat → Prop) (w : World) : Tch S w w := ⟨rfl, rfl, rfl, Nat.le_refl _, fun _ _ _ => rfl⟩
theorem Tch.trans {S S' : Nat → Prop} {a b c : World} (h : Tch S a b) (h' : Tch S' b c) (hS : ∀ k, S' k → S k ∨ a.heap.size ≤ k) : Tch S a c :=
  ⟨h'.os.trans h.os, h'.tape.trans h.tape, h'.output.trans h.output, Nat.le_trans h.size h'.size, fun k hk hn => (h'.block k (Nat.lt_of_lt_of_le hk h.size) (fun hs => by
    rcases hS k hs with q | q
    · exact hn q
    · omega)).trans (h.block k hk hn)⟩
theorem Tch.of_below {S : Nat → Prop} {a b : World} (h : Below a.heap.size a b) : Tch S a b := ⟨h.os, h.tape, h.output, h.size, fun k hk _ => h.block k hk⟩
theorem Tch.below {S : Nat → Prop} {a b : World} {B : Nat} (h : Tch S a b) (hB : B ≤ a.heap.size) (hS : ∀ k, S k → B ≤ k) : Below B a b :=
  ⟨h.os, h.tape, h.output, h.size, fun k hk => h.block k (by omega) fun hs => by have := hS k hs; omega⟩
theorem Tch.setCell {S : Nat → Prop} {a b : World} (h : Tch S a b) {g : Nat} (hg : S g) (i : Nat) (u : Value) : Tch S a (b.setCell ⟨g, i, none⟩ u) :=
  ⟨h.os, h.tape, h.output, by simpa [World.setCell] using h.size, fun k hk hn => (Below.heap_setCell b ⟨g, i, none⟩ u k (by rintro rfl; exact hn hg)).trans (h.block k hk hn)⟩
theorem Tch.drewN {S : Nat → Prop} {a b : World} (h : Tch S a b) (n : Nat) : Tch S a (b.drewN n) := ⟨h.os, h.tape, h.output, h.size, h.block⟩
theorem Tch.alloc {S : Nat → Prop} {a b : World} (h : Tch S a b) (o : Obj) : Tch S a (b.alloc o) :=
  h.trans (Tch.of_below ((Below.refl _ _).alloc (Nat.le_refl _) o) : Tch S b _) fun _ hs => Or.inl hs
theorem Tch.cell {S : Nat → Prop} {a b : World} (h : Tch S a b) {p : Addr} (hp : p.block < a.heap.size) (hn : ¬ S p.block) : b.cell? p = a.cell? p := by
  simp only [World.cell?, h.block _ hp hn]
theorem Tch.mono {S S' : Nat → Prop} {a b : World} (h : Tch S a b) (hS : ∀ k, k < a.heap.size → S k → S' k) : Tch S' a b :=
  ⟨h.os, h.tape, h.output, h.size, fun k hk hn => h.block k hk fun q => hn (hS k hk q)⟩
theorem Tch.setCells {S : Nat → Prop} {a : World} {g : Nat} (hg : S g) : ∀ (vs : List Value) (o : Nat) (b : World), Tch S a b → Tch S a (b.setCells g o vs)
  | [], _, _, h => h
  | v :: r, o, b, h => Tch.setCells hg r (o + 1) (b.setCell ⟨g, o, none⟩ v) (h.setCell hg o v)
theorem Blk.setCells {g t : Nat} : ∀ (vs : List Value) (o : Nat) (w : World) (cs : Array Value), Blk w g t cs → ∃ cs' : Array Value, Blk (w.setCells g o vs) g t cs' ∧ cs'.size = cs.size ∧ ∀ i, cs'[i]? = if o ≤ i ∧ i < o + vs.length ∧ i < cs.size then vs[i - o]? else cs[i]?
  | [], o, w, cs, h => ⟨cs, h, rfl, fun i => by rw [if_neg (by simp; omega)]⟩
  | v :: r, o, w, cs, h => by
    obtain ⟨cs', h1, h2, h3⟩ := Blk.setCells r (o + 1) (w.setCell ⟨g, o, none⟩ v) (cs.setIfInBounds o v) (h.set_ o v)
    refine ⟨cs', h1, by rw [h2, Array.size_setIfInBounds], fun i => ?_⟩
    rw [h3 i, Array.size_setIfInBounds, List.length_cons]
    by_cases hi : i = o
    · subst hi
      rw [if_neg (by omega)]
      rw [Array.getElem?_setIfInBounds, if_pos rfl]
      by_cases hc : i < cs.size
      · rw [if_pos hc, if_pos ⟨Nat.le_refl _, by omega, hc⟩, Nat.sub_self]; rfl
      · rw [if_neg hc, if_neg (by omega)]
        exact (Array.getElem?_eq_none (by omega)).symm
    · by_cases hc : o + 1 ≤ i ∧ i < o + 1 + r.length ∧ i < cs.size
      · rw [if_pos hc, if_pos ⟨by omega, by omega, hc.2.2⟩, show i - o = (i - (o + 1)) + 1 by omega]
        rfl
      · rw [if_neg hc, if_neg (by omega), Array.getElem?_setIfInBounds, if_neg (by omega)]
/-- A block written whole. -/
theorem Blk.put {g t : Nat} {w : World} {cs : Array Value} (h : Blk w g t cs) (vs : List Value) (hl : vs.length = cs.size) : Blk (w.setCells g 0 vs) g t vs.toArray := by
  obtain ⟨cs', h1, h2, h3⟩ := Blk.setCells vs 0 w cs h
  have e : cs' = vs.toArray := by
    refine Array.ext_getElem? fun i => ?_
    rw [h3 i]
    by_cases hi : i < cs.size
    · rw [if_pos ⟨Nat.zero_le _, by omega, hi⟩, Nat.sub_zero]; simp
    · rw [if_neg (by omega), Array.getElem?_eq_none (by omega)]
      simp; omega
  rw [e] at h1; exact h1
theorem Blk.tch {S : Nat → Prop} {g t : Nat} {w w' : World} {cs : Array Value} (h : Blk w g t cs) (hT : Tch S w w') (hn : ¬ S g) : Blk w' g t cs := (hT.block g h.lt hn).trans h
end Go.Proofs.YtillmlaoppibfaaDoor
