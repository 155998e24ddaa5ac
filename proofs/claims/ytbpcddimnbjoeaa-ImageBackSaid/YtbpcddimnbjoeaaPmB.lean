/- Steps of a region that draws its order, with what they yield said ahead; whether a plane is right, plainly. -/
import Derived.Test.YtbpcddimnbjoeaaPmA
namespace Go.Proofs.Ytbpcddimnbjoeaa
open Go.RowKit Go.Maps Go.ChangeMaps Go.MapKept
section
variable {P : Program} {ops : Array Oper} {S : World → Prop} {o : Oper} {a : Act} {t t' : TypeId} {k : IntKind} {m n : Int} {r : Bool}
theorem yieldsIf_eqlR (hw : Region.wanted o (yielded ops a.tmps) = true) (x y : Operand) (ho : o.op = .binOp .eql t x y t') (hx : a.eval x = .int k m) (hy : a.eval y = .int k n) (hr : (m == n) = r) : YieldsIf P ops S o (.bool r) a := by
  rw [← hr]; exact yieldsIf_eqlI hw x y ho hx hy
theorem yieldsIf_geqR (hw : Region.wanted o (yielded ops a.tmps) = true) (x y : Operand) (ho : o.op = .binOp .geq t x y t') (hx : a.eval x = .int k m) (hy : a.eval y = .int k n) (hr : decide (m ≥ n) = r) : YieldsIf P ops S o (.bool r) a := by
  rw [← hr]; exact yieldsIf_geqI hw x y ho hx hy
theorem yieldsIf_lssR (hw : Region.wanted o (yielded ops a.tmps) = true) (x y : Operand) (ho : o.op = .binOp .lss t x y t') (hx : a.eval x = .int k m) (hy : a.eval y = .int k n) (hr : decide (m < n) = r) : YieldsIf P ops S o (.bool r) a := by
  refine .inl ⟨hw, fun w _ => ?_⟩
  unfold execOp
  simp only [ho, hx, hy]
  simp [go_sem, ← hr]
theorem yieldsIf_leqR (hw : Region.wanted o (yielded ops a.tmps) = true) (x y : Operand) (ho : o.op = .binOp .leq t x y t') (hx : a.eval x = .int k m) (hy : a.eval y = .int k n) (hr : decide (m ≤ n) = r) : YieldsIf P ops S o (.bool r) a := by
  refine .inl ⟨hw, fun w _ => ?_⟩
  unfold execOp
  simp only [ho, hx, hy]
  simp [go_sem, ← hr]
theorem yieldsIf_gtrR (hw : Region.wanted o (yielded ops a.tmps) = true) (x y : Operand) (ho : o.op = .binOp .gtr t x y t') (hx : a.eval x = .int k m) (hy : a.eval y = .int k n) (hr : decide (m > n) = r) : YieldsIf P ops S o (.bool r) a := by
  refine .inl ⟨hw, fun w _ => ?_⟩
  unfold execOp
  simp only [ho, hx, hy]
  simp [go_sem, ← hr]
theorem yieldsIf_neqR (hw : Region.wanted o (yielded ops a.tmps) = true) (x y : Operand) (ho : o.op = .binOp .neq t x y t') (hx : a.eval x = .int k m) (hy : a.eval y = .int k n) (hr : (m != n) = r) : YieldsIf P ops S o (.bool r) a := by
  refine .inl ⟨hw, fun w _ => ?_⟩
  unfold execOp
  simp only [ho, hx, hy]
  simp [go_sem, ← hr]
end
/-- Whether a plane's entry may be. -/
def entB (ns : List ND) (en tp : Int) : Bool := ((en == 0) && (tp == 0)) || (thB ns en && decide (tp ≥ 0) && decide (tp ≤ (nAt ns en.toNat).level))
def chkB (ns : List ND) (links en tp : Int) : Bool := decide (1 ≤ ns.length) && decide (ns.length ≤ 4097) && ringB ns && (liveI ns).all (fun x => nodeB ns x.toNat links) && entB ns en tp
def chkW (ns : List ND) (links en tp : Int) : Int := if chkB ns links en tp then 0 else 7
theorem chkW_no {ns : List ND} {links en tp : Int} (h : chkB ns links en tp = false) : chkW ns links en tp = 7 := by unfold chkW; rw [h]; rfl
theorem chkW_yes {ns : List ND} {links en tp : Int} (h : chkB ns links en tp = true) : chkW ns links en tp = 0 := by unfold chkW; rw [h]; rfl
def RetE (y : Int) (w : World) (e : Ending) (w' : World) : Prop := e = .returned (.int .i64 y) ∧ Below w.heap.size w w'
theorem PgAt.levY {X : World} {A : Option Addr} {n c : Nat} {ns : List ND} (h : PgAt X X.heap.size A n c ns) {i : Nat} (hi : i < n) : ∃ b o, A = some ⟨b, o, none⟩ ∧
    Hid (∀ Y, Below X.heap.size X Y → Y.cell? ⟨b, o + i * 7 + 3, none⟩ = some (.int .i64 (nAt ns i).level)) := by
  obtain ⟨b, o, d, e, hb, hd, hr, _⟩ := h.node hi
  refine ⟨b, o, e, fun Y hY => ?_⟩
  rw [nAt_of hd]
  exact (hY.cell (p := ⟨b, o + i * 7 + 3, none⟩) hb).trans (hr 3 _ rfl)
end Go.Proofs.Ytbpcddimnbjoeaa
