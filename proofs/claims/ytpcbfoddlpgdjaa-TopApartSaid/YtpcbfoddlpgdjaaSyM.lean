/- Candidates in a row of the call's own: what lies in memory. -/
import Derived.Test.YtpcbfoddlpgdjaaSyQ
import Derived.Test.YtpcbfoddlpgdjaaRkI
import Derived.Deep.Cut
import Derived.Deep.CutRange
namespace Go.Proofs.Ytpcbfoddlpgdjaa
open Go.RowKit
/-- A candidate: a spot, and its vector. -/
structure Cd where
  sp : Sp
  vec : IS
def Cd.cells (c : Cd) : Array Value := #[.int .u64 c.sp.d, .int .u64 c.sp.id, .int .i64 c.sp.s, c.vec.v]
def Cd.v (c : Cd) : Value := .agg c.cells
theorem cdTS : (Try.prog.info? 90).map (·.size) = some 4 := by kernel_rfl
theorem info_cdS : (Try.prog.info? 90).map (fun i => (i.zero, i.size, i.bytes)) = some (some (.agg #[.int .u64 0, .int .u64 0, .int .i64 0, .slice none 0 0]), 4, 48) := by kernel_rfl
theorem cdl (x : Cd) : x.cells.toList.length = 4 := rfl
theorem cd_oneS (x : Cd) : ∀ u ∈ x.cells.toList, u.oneCell' = true := by
  intro u hu
  rcases (by simpa [Cd.cells] using hu : u = _ ∨ u = _ ∨ u = _ ∨ u = _) with rfl | rfl | rfl | rfl <;> rfl
/-- A row of n candidates. -/
def HdC (w : World) (g n : Nat) (f : Nat → Cd) : Prop := ∃ C : Array Value, Blk w g 90 C ∧ C.size = n * 4 ∧ ∀ i, i < n → ∀ (j : Nat) (u : Value), (f i).cells.toList[j]? = some u → C[i * 4 + j]? = some u
def updC (f : Nat → Cd) (k : Nat) (x : Cd) : Nat → Cd := fun i => if i = k then x else f i
section
variable {w w' : World} {g n k : Nat} {f : Nat → Cd}
theorem HdC.lt (h : HdC w g n f) : g < w.heap.size := by obtain ⟨C, h1, _⟩ := h; exact h1.lt
theorem HdC.tch {S : Nat → Prop} (h : HdC w g n f) (hT : Tch S w w') (hg : ¬ S g) : HdC w' g n f := by
  obtain ⟨C, h1, h2, h3⟩ := h
  exact ⟨C, h1.tch hT hg, h2, h3⟩
theorem HdC.below {B : Nat} (h : HdC w g n f) (hb : Below B w w') (hg : g < B) : HdC w' g n f := by
  obtain ⟨C, h1, h2, h3⟩ := h
  exact ⟨C, h1.below hb hg, h2, h3⟩
theorem HdC.bel (h : HdC w g n f) (hb : Below w.heap.size w w') : HdC w' g n f := h.below hb h.lt
theorem HdC.load (h : HdC w g n f) (hk : k < n) : (Instr.loadAt 90 (.pointer (some ⟨g, 0 + k * 4, none⟩))).run Try.prog w = .ok (f k).v w := by
  obtain ⟨C, h1, h2, h3⟩ := h
  exact range_load (xs := (f k).cells) (fun j v hv => by rw [h1.cell, Nat.zero_add]; exact h3 k hk j v hv) Try.underlying90 rfl cdTS
theorem HdC.store (x : Cd) (h : HdC w g n f) (hk : k < n) : (Instr.storeAt 90 (.pointer (some ⟨g, 0 + k * 4, none⟩)) x.v).run Try.prog w = .ok () (w.setCells g (k * 4) x.cells.toList) := by
  obtain ⟨C, h1, h2, h3⟩ := h
  rw [Nat.zero_add]
  exact row_store_mid h1 (k * 4) x.cells (by rw [h2]; show k * 4 + 4 ≤ _; omega) cdTS (by simp [Cd.cells, Value.oneCell', IS.v])
theorem HdC.set (x : Cd) (h : HdC w g n f) (hk : k < n) : HdC (w.setCells g (k * 4) x.cells.toList) g n (updC f k x) := by
  obtain ⟨C, h1, h2, h3⟩ := h
  obtain ⟨C', e1, e2, e3⟩ := Blk.setCells x.cells.toList (k * 4) w C h1
  refine ⟨C', e1, by rw [e2, h2], fun i hi j u hu => ?_⟩
  have hj : j < 4 := (List.getElem?_eq_some_iff.1 hu).1
  rw [e3]
  unfold updC at hu
  by_cases e : i = k
  · subst e
    rw [if_pos rfl] at hu
    rw [if_pos ⟨by omega, by show _ < _ + 4; omega, by rw [h2]; omega⟩, show i * 4 + j - i * 4 = j by omega]
    exact hu
  · rw [if_neg e] at hu
    rw [if_neg (by show ¬ (_ ∧ _ < _ + 4 ∧ _); omega)]
    exact h3 i hi j u hu
theorem upd_sw (f : Nat → Cd) (x y : Nat) : updC (updC f x (f y)) y (f x) = swF f x y := by
  funext z; unfold updC swF
  by_cases h1 : z = y
  · subst h1
    rw [if_pos rfl]
    by_cases h2 : z = x
    · subst h2; rw [if_pos rfl]
    · rw [if_neg h2, if_pos rfl]
  · rw [if_neg h1, if_neg h1]
theorem HdC.sw {x y : Nat} (h : HdC w g n f) (hx : x < n) (hy : y < n) : HdC ((w.setCells g (x * 4) (f y).cells.toList).setCells g (y * 4) (f x).cells.toList) g n (swF f x y) := by
  rw [← upd_sw]
  exact (h.set (f y) hx).set (f x) hy
end
theorem szCd : ∀ w, (sizeOf (Try.prog.elem 71)).run Try.prog w = .ok 4 w := by
  intro w
  have : Try.prog.elem 71 = 90 := by unfold Program.elem; rw [Try.underlying71]
  rw [this]
  exact Try.sizeOf90 w
theorem yieldsIf_indexC {ops : Array Oper} {S : World → Prop} {o : Oper} {a : Act} {T E sz b off n c k : Nat} (hT : Try.prog.underlying T = some (.slice E)) (hz : ∀ w, (sizeOf (Try.prog.elem T)).run Try.prog w = .ok sz w) (hw : Region.wanted o (yielded ops a.tmps) = true) (x y : Operand) (ho : o.op = .indexAddr T x y) (hx : a.eval x = .slice (some ⟨b, off, none⟩) n c) (hy : a.eval y = .int .i64 (k : Nat)) (hk : k < n) :
    YieldsIf Try.prog ops S o (.pointer (some ⟨b, off + k * sz, none⟩)) a := by
  refine .inl ⟨hw, fun w _ => ?_⟩
  have he : Try.prog.elem T = E := by unfold Program.elem; rw [hT]
  rw [he] at hz
  have h0 : ¬ ((k : Int) < 0) := by omega
  unfold execOp
  simp only [ho, hx, hy]
  simp [go_sem, hT, hz, hk]
section
variable {P : Program} {ops : Array Oper} {S : World → Prop} {o : Oper} {a : Act} {t t' : TypeId} {m n : Int}
theorem yieldsIf_addS {z : Int} (hr : IntKind.i64.wrap (m + n) = z) (hw : Region.wanted o (yielded ops a.tmps) = true) (x y : Operand) (ho : o.op = .binOp .add t x y t') (hx : a.eval x = .int .i64 m) (hy : a.eval y = .int .i64 n) : YieldsIf P ops S o (.int .i64 z) a := by
  refine .inl ⟨hw, fun w _ => ?_⟩
  unfold execOp
  simp only [ho, hx, hy]
  simp [go_sem, ← hr]
theorem yieldsIf_subS {z : Int} (hr : IntKind.i64.wrap (m - n) = z) (hw : Region.wanted o (yielded ops a.tmps) = true) (x y : Operand) (ho : o.op = .binOp .sub t x y t') (hx : a.eval x = .int .i64 m) (hy : a.eval y = .int .i64 n) : YieldsIf P ops S o (.int .i64 z) a := by
  refine .inl ⟨hw, fun w _ => ?_⟩
  unfold execOp
  simp only [ho, hx, hy]
  simp [go_sem, ← hr]
theorem yieldsIf_lssS {k : IntKind} {r : Bool} (hr : decide (m < n) = r) (hw : Region.wanted o (yielded ops a.tmps) = true) (x y : Operand) (ho : o.op = .binOp .lss t x y t') (hx : a.eval x = .int k m) (hy : a.eval y = .int k n) : YieldsIf P ops S o (.bool r) a := by
  refine .inl ⟨hw, fun w _ => ?_⟩
  unfold execOp
  simp only [ho, hx, hy]
  simp [go_sem, ← hr]
theorem yieldsIf_gtrS {k : IntKind} {r : Bool} (hr : decide (n < m) = r) (hw : Region.wanted o (yielded ops a.tmps) = true) (x y : Operand) (ho : o.op = .binOp .gtr t x y t') (hx : a.eval x = .int k m) (hy : a.eval y = .int k n) : YieldsIf P ops S o (.bool r) a := by
  refine .inl ⟨hw, fun w _ => ?_⟩
  unfold execOp
  simp only [ho, hx, hy]
  simp [go_sem, ← hr]
end
theorem wi_nat {z : Int} {k : Nat} (h : z = (k : Nat)) (hk : k ≤ 9223372036854775807) : IntKind.i64.wrap z = (k : Nat) := by
  rw [h]; exact IntWalk.i64_in _ (by omega)
/-- The function that compares. -/
def fvC : Value := .func (.func 63) #[] #[]
structure CmpOk (lt : Cd → Cd → Bool) : Prop where
  tr : ∀ x y z, lt y x = false → lt z y = false → lt z x = false
  asy : ∀ x y, lt x y = true → lt y x = false
  cmp : ∀ (x y : Cd) (W : World), Calls Try.prog 63 #[x.v, y.v] W fun e w' => ∃ r : Int, e = .returned (.int .i64 r) ∧ decide (r < 0) = lt x y ∧ Below W.heap.size W w'
/-- No greater. -/
def leC (lt : Cd → Cd → Bool) (x y : Cd) : Prop := lt y x = false
theorem CmpOk.tr' {lt : Cd → Cd → Bool} (h : CmpOk lt) : ∀ x y z, leC lt x y → leC lt y z → leC lt x z := fun x y z h1 h2 => h.tr x y z h1 h2
end Go.Proofs.Ytpcbfoddlpgdjaa
