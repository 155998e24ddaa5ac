/- Planes: whether a plane is small. -/
import Derived.Test.YtckclflbcgblaaaPmA
namespace Go.Proofs.Ytckclflbcgblaaa
open Go.RowKit Go.Maps Go.ChangeMaps Go.MapKept
/-- .. of any length. -/
def IS.Raw (w : World) (B : Nat) (k : IntKind) (l : IS) : Prop := (l.A = none → l.n = 0 ∧ l.c = 0) ∧ l.n ≤ 9223372036854775807 ∧ Rd w B l.A l.n (l.xs.map (.int k)) ∧ ∀ x ∈ l.xs, (Lit.int k x).wf = true
def ND.Raw (w : World) (B : Nat) (d : ND) : Prop := d.vec.Raw w B .i32 ∧ (d.LA = none → d.ln = 0 ∧ d.lc = 0) ∧ d.ln ≤ 9223372036854775807 ∧ Rs w B d.LA d.ln 1 (d.ls.map fun l => [l.v]) ∧ (∀ l ∈ d.ls, l.Raw w B .i64) ∧
  ((Lit.int .u64 d.id).wf = true ∧ (Lit.int .i64 d.level).wf = true ∧ (Lit.int .i64 d.next).wf = true ∧ (Lit.int .i64 d.prev).wf = true ∧ ∀ l ∈ d.ls, l.n ≤ l.c)
def PgRaw (w : World) (B : Nat) (A : Option Addr) (n c : Nat) (ns : List ND) : Prop := (A = none → n = 0 ∧ c = 0) ∧ n ≤ 9223372036854775807 ∧ Rs w B A n 7 (ns.map fun d => d.cells.toList) ∧ ∀ d ∈ ns, d.Raw w B
def smND (d : ND) : Bool := decide (d.ln ≤ 10) && decide (d.vec.n ≤ 50) && d.ls.all fun l => decide (l.n ≤ 80)
def smB (ns : List ND) : Bool := decide (ns.length ≤ 20) && ns.all smND
section
variable {w w' : World} {B B' : Nat} {A : Option Addr} {n c : Nat} {ns : List ND}
theorem IS.Raw.below {k : IntKind} {l : IS} (h : l.Raw w B k) (hb : Below B w w') : l.Raw w' B k := ⟨h.1, h.2.1, h.2.2.1.below hb, h.2.2.2⟩
theorem IS.Raw.more {k : IntKind} {l : IS} (h : l.Raw w B k) (hB : B ≤ B') : l.Raw w B' k := ⟨h.1, h.2.1, h.2.2.1.more hB, h.2.2.2⟩
theorem ND.Raw.below {d : ND} (h : d.Raw w B) (hb : Below B w w') : d.Raw w' B := ⟨h.1.below hb, h.2.1, h.2.2.1, h.2.2.2.1.below hb, fun l hl => (h.2.2.2.2.1 l hl).below hb, h.2.2.2.2.2⟩
theorem ND.Raw.more {d : ND} (h : d.Raw w B) (hB : B ≤ B') : d.Raw w B' := ⟨h.1.more hB, h.2.1, h.2.2.1, h.2.2.2.1.more hB, fun l hl => (h.2.2.2.2.1 l hl).more hB, h.2.2.2.2.2⟩
theorem PgRaw.below (h : PgRaw w B A n c ns) (hb : Below B w w') : PgRaw w' B A n c ns := ⟨h.1, h.2.1, h.2.2.1.below hb, fun d hd => (h.2.2.2 d hd).below hb⟩
theorem PgRaw.more (h : PgRaw w B A n c ns) (hB : B ≤ B') : PgRaw w B' A n c ns := ⟨h.1, h.2.1, h.2.2.1.more hB, fun d hd => (h.2.2.2 d hd).more hB⟩
theorem PgRaw.len (h : PgRaw w B A n c ns) : ns.length = n := by simpa using h.2.2.1.len
theorem PgRaw.at_ (h : PgRaw w B A n c ns) (hs : smB ns = true) : PgAt w B A n c ns := by
  unfold smB at hs
  rw [Bool.and_eq_true, decide_eq_true_eq, List.all_eq_true] at hs
  obtain ⟨h1, h2⟩ := hs
  refine ⟨h.1, by rw [← h.len]; omega, h.2.2.1, fun d hd => ?_⟩
  have h3 := h2 d hd
  unfold smND at h3
  rw [Bool.and_eq_true, Bool.and_eq_true, decide_eq_true_eq, decide_eq_true_eq, List.all_eq_true] at h3
  have hr := h.2.2.2 d hd
  refine ⟨⟨hr.1.1, by omega, hr.1.2.2⟩, hr.2.1, by omega, hr.2.2.2.1, fun l hl => ?_, hr.2.2.2.2.2⟩
  have h4 := h3.2 l hl
  rw [decide_eq_true_eq] at h4
  have hl' := hr.2.2.2.2.1 l hl
  exact ⟨hl'.1, by omega, hl'.2.2⟩
theorem PgRaw.node (h : PgRaw w B A n c ns) {i : Nat} (hi : i < n) : ∃ b o d, A = some ⟨b, o, none⟩ ∧ b < B ∧ ns[i]? = some d ∧ w.rangeAt b (o + i * 7) d.cells.toList ∧ d.Raw w B := by
  obtain ⟨b, o, c, e, hb, hc, _, hr⟩ := h.2.2.1.at_ hi
  rw [List.getElem?_map, Option.map_eq_some_iff] at hc
  obtain ⟨d, hd, rfl⟩ := hc
  exact ⟨b, o, d, e, hb, hd, hr, h.2.2.2 d (List.mem_of_getElem? hd)⟩
theorem ND.Raw.len {d : ND} (h : d.Raw w B) : d.ls.length = d.ln := by simpa using h.2.2.2.1.len
theorem ND.Raw.list {d : ND} (h : d.Raw w B) {i : Nat} (hi : i < d.ln) : ∃ b o l, d.LA = some ⟨b, o, none⟩ ∧ b < B ∧ d.ls[i]? = some l ∧ w.cell? ⟨b, o + i, none⟩ = some l.v ∧ l.Raw w B .i64 := by
  obtain ⟨b, o, c, e, hb, hc, _, hr⟩ := h.2.2.2.1.at_ hi
  rw [List.getElem?_map, Option.map_eq_some_iff] at hc
  obtain ⟨l, hl, rfl⟩ := hc
  refine ⟨b, o, l, e, hb, hl, ?_, h.2.2.2.2.1 l (List.mem_of_getElem? hl)⟩
  have := hr 0 l.v rfl
  rwa [Nat.mul_one, Nat.add_zero] at this
end
def smI (b : Bool) : Int := if b then 1 else 0
theorem smB_no {ns : List ND} {i : Nat} {d : ND} (hd : ns[i]? = some d) (h : smND d = false) : smB ns = false := by
  unfold smB
  rw [List.all_eq_false.2 ⟨d, List.mem_of_getElem? hd, by rw [h]; decide⟩, Bool.and_false]
theorem smB_yes {ns : List ND} (h1 : ns.length ≤ 20) (h : ∀ i d, i < ns.length → ns[i]? = some d → smND d = true) : smB ns = true := by
  unfold smB
  rw [decide_eq_true h1, Bool.true_and, List.all_eq_true]
  intro d hd
  obtain ⟨i, hi, rfl⟩ := List.mem_iff_getElem.1 hd
  exact h i _ hi (List.getElem?_eq_getElem hi)
theorem smND_no {d : ND} {i : Nat} {l : IS} (hl : d.ls[i]? = some l) (h : 80 < l.n) : smND d = false := by
  unfold smND
  rw [List.all_eq_false.2 ⟨l, List.mem_of_getElem? hl, by rw [decide_eq_false (by omega)]; decide⟩, Bool.and_false]
theorem smND_yes {d : ND} (h1 : d.ln ≤ 10) (h2 : d.vec.n ≤ 50) (h : ∀ i, i < d.ls.length → ∀ l, d.ls[i]? = some l → l.n ≤ 80) : smND d = true := by
  unfold smND
  rw [decide_eq_true h1, decide_eq_true h2, Bool.and_self, Bool.true_and, List.all_eq_true]
  intro l hl
  obtain ⟨i, hi, rfl⟩ := List.mem_iff_getElem.1 hl
  exact decide_eq_true (h i hi _ (List.getElem?_eq_getElem hi))
def RetZ (y : Int) (w : World) (e : Ending) (w' : World) : Prop := e = .returned (.int .i64 y) ∧ Below w.heap.size w w'
end Go.Proofs.Ytckclflbcgblaaa
