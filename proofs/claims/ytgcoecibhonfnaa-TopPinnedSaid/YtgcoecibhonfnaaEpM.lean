/- The clock of package epoch, in memory. -/
import Derived.Test.YtgcoecibhonfnaaMem
import Derived.Test.YtgcoecibhonfnaaRngP
namespace Go.Proofs.Ytgcoecibhonfnaa
open Go.RowKit
/-- Blocks that are not of S are as they were. -/
structure Tch (S : Nat → Prop) (w w' : World) : Prop where
  os : w'.os = w.os
  tape : w'.tape = w.tape
  output : w'.output = w.output
  size : w.heap.size ≤ w'.heap.size
  block : ∀ k, k < w.heap.size → ¬ S k → w'.heap[k]? = w.heap[k]?
theorem Tch.refl (S : Nat → Prop) (w : World) : Tch S w w := ⟨rfl, rfl, rfl, Nat.le_refl _, fun _ _ _ => rfl⟩
theorem Tch.trans {S S' : Nat → Prop} {a b c : World} (h : Tch S a b) (h' : Tch S' b c) (hS : ∀ k, S' k → S k ∨ a.heap.size ≤ k) : Tch S a c :=
  ⟨h'.os.trans h.os, h'.tape.trans h.tape, h'.output.trans h.output, Nat.le_trans h.size h'.size, fun k hk hn => (h'.block k (Nat.lt_of_lt_of_le hk h.size) (fun hs => by
    rcases hS k hs with q | q
    · exact hn q
    · omega)).trans (h.block k hk hn)⟩
theorem Tch.of_below {S : Nat → Prop} {a b : World} (h : Below a.heap.size a b) : Tch S a b := ⟨h.os, h.tape, h.output, h.size, fun k hk _ => h.block k hk⟩
theorem Tch.below {S : Nat → Prop} {a b : World} {B : Nat} (h : Tch S a b) (hB : B ≤ a.heap.size) (hS : ∀ k, S k → B ≤ k) : Below B a b :=
  ⟨h.os, h.tape, h.output, h.size, fun k hk => h.block k (by omega) fun hs => by have := hS k hs; omega⟩
theorem Tch.setCell {S : Nat → Prop} {a b : World} (h : Tch S a b) {g : Nat} (hg : S g) (i : Nat) (u : Value) : Tch S a (b.setCell ⟨g, i, none⟩ u) :=
  ⟨h.os, h.tape, h.output, by simpa [World.setCell] using h.size, fun k hk hn => (Below.heap_setCell b ⟨g, i, none⟩ u k (by rintro rfl; exact hn hg)).trans (h.block k hk hn)⟩
theorem Tch.drewN {S : Nat → Prop} {a b : World} (h : Tch S a b) (n : Nat) : Tch S a (b.drewN n) := ⟨h.os, h.tape, h.output, h.size, h.block⟩
theorem Tch.alloc {S : Nat → Prop} {a b : World} (h : Tch S a b) (o : Obj) : Tch S a (b.alloc o) :=
  h.trans (Tch.of_below ((Below.refl _ _).alloc (Nat.le_refl _) o) : Tch S b _) fun _ hs => Or.inl hs
theorem Tch.cell {S : Nat → Prop} {a b : World} (h : Tch S a b) {p : Addr} (hp : p.block < a.heap.size) (hn : ¬ S p.block) : b.cell? p = a.cell? p := by
  simp only [World.cell?, h.block _ hp hn]
/-- What a clock knows: the epoch, who is looked at next, what each worker loaded and its record, and what is in limbo: slots and epochs, one behind the other. -/
structure EpS where
  ep : Nat
  at_ : Nat
  ws : List Int
  fl : List Int
/-- Where a clock lies. -/
structure EpP where
  g : Nat
  gw : Nat
  B : Option Addr
  d : Nat
/-- The blocks of a clock. -/
def EpP.blk (p : EpP) (k : Nat) : Prop := k = p.g ∨ k = p.gw ∨ p.B = some ⟨k, 0, none⟩
/-- How many workers a clock has; how many are in limbo. -/
def EpS.n (s : EpS) : Nat := s.ws.length / 2
def EpS.k (s : EpS) : Nat := s.fl.length / 2
structure EpAt (w : World) (base : Nat) (p : EpP) (s : EpS) : Prop where
  clk : Blk w p.g 42 #[.int .i64 s.ep, .slice (some ⟨p.gw, 0, none⟩) s.n s.n, .slice p.B s.k p.d, .int .i64 s.at_]
  wrk : IB w p.gw 46 .i64 s.ws
  lim : w.ownsRow base 49 2 (.slice p.B s.k p.d) s.k (s.fl.map (.int .i64))
  gb : base ≤ p.g
  gwb : base ≤ p.gw
  ne : p.g ≠ p.gw
section
variable {w w' : World} {base : Nat} {p : EpP} {s : EpS}
theorem own_block {w : World} {base t size n d : Nat} {B : Option Addr} {xs : List Value} {k : Nat} (h : w.ownsRow base t size (.slice B n d) n xs) (hB : B = some ⟨k, 0, none⟩) : base ≤ k ∧ k < w.heap.size ∧ ∃ cur, w.heap[k]? = some (.cells cur t (0, 0)) := by
  rcases h.2 with ⟨h1, _⟩ | ⟨g, cap, cur, h1, h2, h3, _⟩
  · rw [hB] at h1; cases h1
  · rw [hB] at h1
    injection h1 with h1
    injection h1 with h1
    injection h1 with h1
    subst h1
    refine ⟨h2, ?_, cur, h3⟩
    exact (Array.getElem?_eq_some_iff.1 h3).1
theorem EpAt.base_le (h : EpAt w base p s) : ∀ k, p.blk k → base ≤ k := by
  rintro k (rfl | rfl | hk)
  · exact h.gb
  · exact h.gwb
  · exact (own_block h.lim hk).1
theorem EpAt.lt (h : EpAt w base p s) : ∀ k, p.blk k → k < w.heap.size := by
  rintro k (rfl | rfl | hk)
  · exact h.clk.lt
  · exact h.wrk.lt
  · exact (own_block h.lim hk).2.1
theorem EpAt.keep (h : EpAt w base p s) (hb : ∀ k, p.blk k → w'.heap[k]? = w.heap[k]?) : EpAt w' base p s := by
  refine ⟨(hb _ (Or.inl rfl)).trans h.clk, ?_, ?_, h.gb, h.gwb, h.ne⟩
  · obtain ⟨rest, hw⟩ := h.wrk
    exact ⟨rest, (hb _ (Or.inr (Or.inl rfl))).trans hw⟩
  · refine ⟨h.lim.1, ?_⟩
    rcases h.lim.2 with h1 | ⟨g, cap, cur, h1, h2, h3, h4⟩
    · exact Or.inl h1
    · refine Or.inr ⟨g, cap, cur, h1, h2, ?_, h4⟩
      have hB : p.B = some ⟨g, 0, none⟩ := by injection h1
      exact (hb g (Or.inr (Or.inr hB))).trans h3
theorem EpAt.below (h : EpAt w base p s) (hb : Below w.heap.size w w') : EpAt w' base p s := h.keep fun k hk => hb.block k (h.lt k hk)
theorem EpAt.drewN (h : EpAt w base p s) (n : Nat) : EpAt (w.drewN n) base p s := h.keep fun _ _ => rfl
end
end Go.Proofs.Ytgcoecibhonfnaa
