/- Walks of the reference of bitset: whether a number is there; a set's numbers; the set of numbers. -/
import Derived.Test.YtokgcjhlmohjgaaDoorBitU
import Derived.Laws.AppendOwnNone
namespace Go.Proofs.YtokgcjhlmohjgaaDoor
open Go.RowKit
/-- A list of integers that the call has made, and owns. -/
def RetO (t : Nat) (kd : IntKind) (zs : List Int) (w : World) (e : Ending) (w' : World) : Prop :=
  ∃ A c, e = .returned (.slice A zs.length c) ∧ (zs.length = 0 → A = none ∧ c = 0) ∧ zs.length ≤ c ∧ w'.ownsRow w.heap.size t 1 (.slice A zs.length c) zs.length (zs.map (.int kd)) ∧ Below w.heap.size w w'
theorem RetO.rd {t : Nat} {kd : IntKind} {zs : List Int} {w w' : World} {e : Ending} (h : RetO t kd zs w e w') : RetL kd zs w e w' := by
  obtain ⟨A, c, he, _, hc, hown, hb⟩ := h
  exact ⟨⟨A, c, he, hc, Rd.of_own hown⟩, hb⟩
theorem own_cap {w : World} {base t n d : Nat} {B : Option Addr} {xs : List Value} (h : w.ownsRow base t 1 (.slice B n d) n xs) : n ≤ d := by
  rcases h.2 with ⟨h1, h2⟩ | ⟨g, cap, cur, h1, _, _, h2, _⟩
  · omega
  · injection h1 with _ _ h3; omega
theorem own_len {w : World} {base t n d : Nat} {B : Option Addr} {kd : IntKind} {cs : List Int} (h : w.ownsRow base t 1 (.slice B n d) n (cs.map (.int kd))) : cs.length = n := by
  have := h.1; simpa using this
end Go.Proofs.YtokgcjhlmohjgaaDoor
