/- Planes: the slots that are there. -/
import Derived.Test.YtpcbfoddlpgdjaaPlA
import Derived.Test.YtpcbfoddlpgdjaaMem
import Derived.Deep.Onto
namespace Go.Proofs.Ytpcbfoddlpgdjaa
open Go.RowKit

/-- A list of the call's own. -/
def OwnI (w : World) (B : Nat) (A : Option Addr) (n c : Nat) (xs : List Int) : Prop := w.ownsRow B 3 1 (.slice A n c) n (xs.map (.int .i64))
theorem OwnI.len {w : World} {B : Nat} {A : Option Addr} {n c : Nat} {xs : List Int} (h : OwnI w B A n c xs) : xs.length = n := by simpa using h.1
theorem own_keep {w w' : World} {base e sz n : Nat} {v : Value} {xs : List Value} (h : w.ownsRow base e sz v n xs) (hb : Below w.heap.size w w') : w'.ownsRow base e sz v n xs :=
  h.kept (only_of_below hb none) (by cases v.ownBlock <;> simp)
theorem OwnI.below {w w' : World} {B : Nat} {A : Option Addr} {n c : Nat} {xs : List Int} (h : OwnI w B A n c xs) (hb : Below w.heap.size w w') : OwnI w' B A n c xs := own_keep h hb
theorem OwnI.mono {w : World} {B B' : Nat} {A : Option Addr} {n c : Nat} {xs : List Int} (h : OwnI w B A n c xs) (hB : B' ≤ B) : OwnI w B' A n c xs := World.ownsRow.mono h hB
theorem OwnI.rd {w : World} {B : Nat} {A : Option Addr} {n c : Nat} {xs : List Int} (h : OwnI w B A n c xs) : Rd w w.heap.size A n (xs.map (.int .i64)) := Rd.of_own h
theorem OwnI.nil_ (w : World) (B : Nat) : OwnI w B none 0 0 [] := World.ownsRow_nil _ _ _ _
theorem OwnI.none_ {w : World} {B : Nat} {A : Option Addr} {n c : Nat} {xs : List Int} (h : OwnI w B A n c xs) : A = none → n = 0 ∧ c = 0 := by
  intro e
  rcases h.2 with ⟨q, _⟩ | ⟨g, cap, cur, q, _⟩
  · injection q with _ q2 q3; exact ⟨q2, q3⟩
  · subst e; injection q with q1 _ _; cases q1
/-- What is told: a list. -/
def RetI (xs : List Int) (w : World) (e : Ending) (w' : World) : Prop := ∃ A n c, e = .returned (.slice A n c) ∧ OwnI w' w.heap.size A n c xs ∧ Below w.heap.size w w'
/-- The slots that are there, up to one. -/
def lvI (ns : List ND) (k : Nat) : List Int := ((List.range k).filter (thN ns)).map fun i : Nat => (i : Int)
theorem lvI_le (ns : List ND) (k : Nat) : (lvI ns k).length ≤ k := by
  unfold lvI
  rw [List.length_map]
  have := List.length_filter_le (thN ns) (List.range k)
  rwa [List.length_range] at this
theorem lvI_succ (ns : List ND) (k : Nat) : lvI ns (k + 1) = lvI ns k ++ if thN ns k then [(k : Int)] else [] := by
  unfold lvI
  rw [List.range_succ, List.filter_append, List.map_append]
  congr 1
  cases h : thN ns k <;> simp [h]
theorem lvI_one (ns : List ND) : lvI ns 1 = [] := by
  have h : thN ns 0 = false := by simp [thN]
  show List.map _ (List.filter (thN ns) (List.range 1)) = []
  simp [List.range_succ, h]
def liveI (ns : List ND) : List Int := lvI ns ns.length
end Go.Proofs.Ytpcbfoddlpgdjaa
