/- The clock of package epoch, in memory. -/
import Derived.Test.YtoodifpkconfcaaMem
import Derived.Test.YtoodifpkconfcaaRngP
import Derived.Test.YtoodifpkconfcaaTch
namespace Go.Proofs.Ytoodifpkconfcaa
open Go.RowKit
/-- What a clock knows: the epoch, who is looked at next, what each worker loaded and its record, and what is in limbo: slots and epochs, one behind the other. -/
structure EpS where
  ep : Nat
  at_ : Nat
  ws : List Int
  fl : List Int
/-- Where a clock lies. -/
structure EpP where
  g : Nat
  gw : Nat
  B : Option Addr
  d : Nat
/-- The blocks of a clock. -/
def EpP.blk (p : EpP) (k : Nat) : Prop := k = p.g ∨ k = p.gw ∨ p.B = some ⟨k, 0, none⟩
/-- How many workers a clock has; how many are in limbo. -/
def EpS.n (s : EpS) : Nat := s.ws.length / 2
def EpS.k (s : EpS) : Nat := s.fl.length / 2
structure EpAt (w : World) (base : Nat) (p : EpP) (s : EpS) : Prop where
  clk : Blk w p.g 83 #[.int .i64 s.ep, .slice (some ⟨p.gw, 0, none⟩) s.n s.n, .slice p.B s.k p.d, .int .i64 s.at_]
  wrk : IB w p.gw 88 .i64 s.ws
  lim : w.ownsRow base 128 2 (.slice p.B s.k p.d) s.k (s.fl.map (.int .i64))
  gb : base ≤ p.g
  gwb : base ≤ p.gw
  ne : p.g ≠ p.gw
section
variable {w w' : World} {base : Nat} {p : EpP} {s : EpS}
theorem own_block {w : World} {base t size n d : Nat} {B : Option Addr} {xs : List Value} {k : Nat} (h : w.ownsRow base t size (.slice B n d) n xs) (hB : B = some ⟨k, 0, none⟩) : base ≤ k ∧ k < w.heap.size ∧ ∃ cur, w.heap[k]? = some (.cells cur t (0, 0)) := by
  rcases h.2 with ⟨h1, _⟩ | ⟨g, cap, cur, h1, h2, h3, _⟩
  · rw [hB] at h1; cases h1
  · rw [hB] at h1
    injection h1 with h1
    injection h1 with h1
    injection h1 with h1
    subst h1
    refine ⟨h2, ?_, cur, h3⟩
    exact (Array.getElem?_eq_some_iff.1 h3).1
theorem EpAt.base_le (h : EpAt w base p s) : ∀ k, p.blk k → base ≤ k := by
  rintro k (rfl | rfl | hk)
  · exact h.gb
  · exact h.gwb
  · exact (own_block h.lim hk).1
theorem EpAt.lt (h : EpAt w base p s) : ∀ k, p.blk k → k < w.heap.size := by
  rintro k (rfl | rfl | hk)
  · exact h.clk.lt
  · exact h.wrk.lt
  · exact (own_block h.lim hk).2.1
theorem EpAt.keep (h : EpAt w base p s) (hb : ∀ k, p.blk k → w'.heap[k]? = w.heap[k]?) : EpAt w' base p s := by
  refine ⟨(hb _ (Or.inl rfl)).trans h.clk, ?_, ?_, h.gb, h.gwb, h.ne⟩
  · obtain ⟨rest, hw⟩ := h.wrk
    exact ⟨rest, (hb _ (Or.inr (Or.inl rfl))).trans hw⟩
  · refine ⟨h.lim.1, ?_⟩
    rcases h.lim.2 with h1 | ⟨g, cap, cur, h1, h2, h3, h4⟩
    · exact Or.inl h1
    · refine Or.inr ⟨g, cap, cur, h1, h2, ?_, h4⟩
      have hB : p.B = some ⟨g, 0, none⟩ := by injection h1
      exact (hb g (Or.inr (Or.inr hB))).trans h3
theorem EpAt.below (h : EpAt w base p s) (hb : Below w.heap.size w w') : EpAt w' base p s := h.keep fun k hk => hb.block k (h.lt k hk)
theorem EpAt.drewN (h : EpAt w base p s) (n : Nat) : EpAt (w.drewN n) base p s := h.keep fun _ _ => rfl
end
end Go.Proofs.Ytoodifpkconfcaa
