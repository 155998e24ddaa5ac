/- Planes: what lies in memory. -/
import Derived.Test.YtbpcddimnbjoeaaRs
import Derived.Lib.Hide
import Derived.WalkKit
import Derived.Deep.Cut
import Derived.Deep.QuietTactic
import Derived.BigQuiet
namespace Go.Proofs.Ytbpcddimnbjoeaa
open Go.RowKit
/-- A slice of ints at hand, of no great length. -/
structure IS where
  A : Option Addr
  n : Nat
  c : Nat
  xs : List Int
def IS.v (l : IS) : Value := .slice l.A l.n l.c
def IS.At (w : World) (B : Nat) (k : IntKind) (l : IS) : Prop := (l.A = none → l.n = 0 ∧ l.c = 0) ∧ l.n ≤ 1048576 ∧ Rd w B l.A l.n (l.xs.map (.int k)) ∧ ∀ x ∈ l.xs, (Lit.int k x).wf = true
/-- A node. -/
structure ND where
  id : Int
  vec : IS
  tags : Int
  level : Int
  LA : Option Addr
  ln : Nat
  lc : Nat
  ls : List IS
  next : Int
  prev : Int
def ND.cells (d : ND) : Array Value := #[.int .u64 d.id, d.vec.v, .int .u64 d.tags, .int .i64 d.level, .slice d.LA d.ln d.lc, .int .i64 d.next, .int .i64 d.prev]
def ND.At (w : World) (B : Nat) (d : ND) : Prop := d.vec.At w B .i32 ∧ (d.LA = none → d.ln = 0 ∧ d.lc = 0) ∧ d.ln ≤ 1048576 ∧ Rs w B d.LA d.ln 1 (d.ls.map fun l => [l.v]) ∧ (∀ l ∈ d.ls, l.At w B .i64) ∧
  ((Lit.int .u64 d.id).wf = true ∧ (Lit.int .i64 d.level).wf = true ∧ (Lit.int .i64 d.next).wf = true ∧ (Lit.int .i64 d.prev).wf = true ∧ ∀ l ∈ d.ls, l.n ≤ l.c)
/-- A plane: its nodes. -/
def PgAt (w : World) (B : Nat) (A : Option Addr) (n c : Nat) (ns : List ND) : Prop := (A = none → n = 0 ∧ c = 0) ∧ n ≤ 1048576 ∧ Rs w B A n 7 (ns.map fun d => d.cells.toList) ∧ ∀ d ∈ ns, d.At w B
/-- A plane's cells. -/
def pgL (A : Option Addr) (n c : Nat) (en tp : Int) : Array Value := #[.slice A n c, .int .i64 en, .int .i64 tp]
section
variable {w w' : World} {B B' : Nat} {A : Option Addr} {n c : Nat} {ns : List ND}
theorem IS.At.below {k : IntKind} {l : IS} (h : l.At w B k) (hb : Below B w w') : l.At w' B k := ⟨h.1, h.2.1, h.2.2.1.below hb, h.2.2.2⟩
theorem IS.At.more {k : IntKind} {l : IS} (h : l.At w B k) (hB : B ≤ B') : l.At w B' k := ⟨h.1, h.2.1, h.2.2.1.more hB, h.2.2.2⟩
theorem ND.At.below {d : ND} (h : d.At w B) (hb : Below B w w') : d.At w' B := ⟨h.1.below hb, h.2.1, h.2.2.1, h.2.2.2.1.below hb, fun l hl => (h.2.2.2.2.1 l hl).below hb, h.2.2.2.2.2⟩
theorem ND.At.more {d : ND} (h : d.At w B) (hB : B ≤ B') : d.At w B' := ⟨h.1.more hB, h.2.1, h.2.2.1, h.2.2.2.1.more hB, fun l hl => (h.2.2.2.2.1 l hl).more hB, h.2.2.2.2.2⟩
theorem PgAt.below (h : PgAt w B A n c ns) (hb : Below B w w') : PgAt w' B A n c ns := ⟨h.1, h.2.1, h.2.2.1.below hb, fun d hd => (h.2.2.2 d hd).below hb⟩
theorem PgAt.more (h : PgAt w B A n c ns) (hB : B ≤ B') : PgAt w B' A n c ns := ⟨h.1, h.2.1, h.2.2.1.more hB, fun d hd => (h.2.2.2 d hd).more hB⟩
theorem PgAt.drewN (h : PgAt w B A n c ns) (k : Nat) : PgAt (w.drewN k) B A n c ns := h
theorem PgAt.len (h : PgAt w B A n c ns) : ns.length = n := by simpa using h.2.2.1.len
/-- .. at another world, with all that lies there. -/
theorem PgAt.on (h : PgAt w B A n c ns) (hb : Below B w w') (hB : B ≤ w'.heap.size) : PgAt w' w'.heap.size A n c ns := (h.below hb).more hB
theorem ND.At.len {d : ND} (h : d.At w B) : d.ls.length = d.ln := by simpa using h.2.2.2.1.len
theorem IS.At.len {k : IntKind} {l : IS} (h : l.At w B k) : l.xs.length = l.n := h.2.2.1.lenI
/-- A node of a plane. -/
theorem PgAt.node (h : PgAt w B A n c ns) {i : Nat} (hi : i < n) : ∃ b o d, A = some ⟨b, o, none⟩ ∧ b < B ∧ ns[i]? = some d ∧ w.rangeAt b (o + i * 7) d.cells.toList ∧ d.At w B := by
  obtain ⟨b, o, c, e, hb, hc, _, hr⟩ := h.2.2.1.at_ hi
  rw [List.getElem?_map, Option.map_eq_some_iff] at hc
  obtain ⟨d, hd, rfl⟩ := hc
  exact ⟨b, o, d, e, hb, hd, hr, h.2.2.2 d (List.mem_of_getElem? hd)⟩
/-- A list of a node. -/
theorem ND.At.list {d : ND} (h : d.At w B) {i : Nat} (hi : i < d.ln) : ∃ b o l, d.LA = some ⟨b, o, none⟩ ∧ b < B ∧ d.ls[i]? = some l ∧ w.cell? ⟨b, o + i, none⟩ = some l.v ∧ l.At w B .i64 := by
  obtain ⟨b, o, c, e, hb, hc, _, hr⟩ := h.2.2.2.1.at_ hi
  rw [List.getElem?_map, Option.map_eq_some_iff] at hc
  obtain ⟨l, hl, rfl⟩ := hc
  refine ⟨b, o, l, e, hb, hl, ?_, h.2.2.2.2.1 l (List.mem_of_getElem? hl)⟩
  have := hr 0 l.v rfl
  rwa [Nat.mul_one, Nat.add_zero] at this
end
/-- A node that is none. -/
def nd0 : ND := ⟨0, ⟨none, 0, 0, []⟩, 0, 0, none, 0, 0, [], 0, 0⟩
def nAt (ns : List ND) (i : Nat) : ND := ns.getD i nd0
theorem nAt_of {ns : List ND} {i : Nat} {d : ND} (h : ns[i]? = some d) : nAt ns i = d := by unfold nAt; rw [List.getD_eq_getElem?_getD, h]; rfl
/-- Whether a slot is there. -/
def thN (ns : List ND) (i : Nat) : Bool := decide (1 ≤ i) && decide (i < ns.length) && decide (0 ≤ (nAt ns i).next)
def thB (ns : List ND) (s : Int) : Bool := decide (0 ≤ s) && thN ns s.toNat
theorem thB_nat (ns : List ND) (i : Nat) : thB ns i = thN ns i := by simp [thB]
theorem thB_nat_iff {ns : List ND} {s : Int} : thB ns s = true ↔ ∃ i : Nat, s = i ∧ thN ns i = true := by
  unfold thB
  constructor
  · intro h
    simp only [Bool.and_eq_true, decide_eq_true_eq] at h
    exact ⟨s.toNat, by omega, h.2⟩
  · rintro ⟨i, rfl, h⟩
    simp [h]
theorem thN_iff {ns : List ND} {i : Nat} : thN ns i = true ↔ 1 ≤ i ∧ i < ns.length ∧ 0 ≤ (nAt ns i).next := by
  simp only [thN, Bool.and_eq_true, decide_eq_true_eq, and_assoc]
def RetB (b : Bool) (w : World) (e : Ending) (w' : World) : Prop := e = .returned (.bool b) ∧ Below w.heap.size w w'
theorem bel_box (w : World) (o : Obj) : Below w.heap.size w (w.alloc o) := (Below.refl _ w).alloc (Nat.le_refl _) _
end Go.Proofs.Ytbpcddimnbjoeaa
