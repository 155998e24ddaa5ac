/- Getter: one round of the law GetterAsks: what is at hand, and what is compared. -/
import Derived.Test.YtkhnnjeinpojkaaGtA
import Derived.Test.YtkhnnjeinpojkaaGtL
import Derived.Test.YtkhnnjeinpojkaaGtY
import Derived.Deep.RegionHeld
namespace Go.Proofs.Ytkhnnjeinpojkaa
open Go.RowKit
theorem bel_new (w : World) (o : Obj) : Below w.heap.size w (w.alloc o) := (Below.refl _ w).alloc (Nat.le_refl _) _
/-- Both tasks at hand: the program's at x1, the document's at x2. -/
structure PB (w wx : World) (T D : Nat) (c : Tk) (V2 : Value) (cv : List Int) (x1 x2 : AS) : Prop where
  t : At wx T c x1
  v1 : VV wx c.V cv
  v2 : VV wx V2 cv
  d : ∃ TV, Blk wx D 39 (docA { c with V := V2 } x2 TV) ∧ VV wx TV x2.vec
  ne : T ≠ D
  hT : w.heap.size ≤ T
  hD : w.heap.size ≤ D
  b : Below w.heap.size w wx
section
variable {w wx wy : World} {T D : Nat} {c : Tk} {V2 : Value} {cv : List Int} {x1 x2 y : AS}
theorem PB.below (h : PB w wx T D c V2 cv x1 x2) (hb : Below wx.heap.size wx wy) : PB w wy T D c V2 cv x1 x2 := by
  obtain ⟨TV, d1, d2⟩ := h.d
  exact ⟨h.t.below hb, h.v1.below hb, h.v2.below hb, ⟨TV, d1.below hb d1.lt, d2.below hb⟩, h.ne, h.hT, h.hD, h.b.trans (hb.mono h.b.size)⟩
theorem PB.notD (h : PB w wx T D c V2 cv x1 x2) : ∀ V vec, VV wx V vec → NotAt D V := by
  obtain ⟨TV, d1, d2⟩ := h.d
  exact fun V vec hv => hv.notBlk d1 (doc_no _ _ _ h.v2.slice d2.slice)
theorem PB.notT (h : PB w wx T D c V2 cv x1 x2) : ∀ V vec, VV wx V vec → NotAt T V := fun _ _ hv => h.t.notAt h.v1.slice hv
/-- The document's task goes on. -/
theorem PB.doc (h : PB w wx T D c V2 cv x1 x2) {TV' : Value} (hv : VV wx TV' y.vec) : PB w (wx.setCells D 0 (docA { c with V := V2 } y TV').toList) T D c V2 cv x1 y := by
  have ht : Tch (fun k => k = D) wx (wx.setCells D 0 (docA { c with V := V2 } y TV').toList) := Tch.setCells (S := fun k => k = D) (g := D) rfl _ _ _ (Tch.refl _ _)
  have hn := h.notD
  obtain ⟨TV, d1, d2⟩ := h.d
  exact ⟨h.t.tch ht h.ne hn, h.v1.tch ht (hn _ _ h.v1) (fun _ _ q => q), h.v2.tch ht (hn _ _ h.v2) (fun _ _ q => q), ⟨TV', d1.putA _ rfl, hv.tch ht (hn _ _ hv) (fun _ _ q => q)⟩, h.ne, h.hT, h.hD, below_put h.b (Nat.le_refl _) h.hD _ _⟩
/-- The program's task goes on. -/
theorem PB.task (h : PB w wx T D c V2 cv x1 x2) (ha : At wy T c y) (ht : Tch (fun k => k = T) wx wy) : PB w wy T D c V2 cv y x2 := by
  have hn := h.notT
  have hs := h.b.size
  obtain ⟨TV, d1, d2⟩ := h.d
  exact ⟨ha, h.v1.tch ht (hn _ _ h.v1) (fun _ _ q => q), h.v2.tch ht (hn _ _ h.v2) (fun _ _ q => q), ⟨TV, d1.tch ht (fun q => h.ne q.symm), d2.tch ht (hn _ _ d2) (fun _ _ q => q)⟩, h.ne, h.hT, h.hD, h.b.trans (ht.below hs (fun k q => by rw [q]; exact h.hT))⟩
end
/-- Blocks made anew and filled. -/
theorem got_bel (w : World) (g : GD) : Below w.heap.size w ((w.alloc (.cells gd0.cells 42)).setCells w.heap.size 0 g.cells.toList) := below_put (bel_new _ _) (Nat.le_refl _) (Nat.le_refl _) _ _
theorem got_at (w : World) (g : GD) : Blk ((w.alloc (.cells gd0.cells 42)).setCells w.heap.size 0 g.cells.toList) w.heap.size 42 g.cells := (Blk.new w 42 gd0.cells).putA _ rfl
theorem got_one (g : GD) : g.cells.all (·.oneCell') = true := by simp [GD.cells, gotL, GD.L, GD.V, Value.oneCell']
theorem got_put (w : World) (g : GD) : (Instr.storeAt 42 (.pointer (some ⟨w.heap.size, 0, none⟩)) (.agg g.cells)).run Try.prog (w.alloc (.cells gd0.cells 42)) = .ok () ((w.alloc (.cells gd0.cells 42)).setCells w.heap.size 0 g.cells.toList) :=
  row_store (Blk.new w 42 gd0.cells) g.cells rfl gotT (got_one g)
theorem gd_load {w : World} {b : Nat} {g : GD} (h : Blk w b 42 g.cells) : (Instr.loadAt 42 (.pointer (some ⟨b, 0, none⟩))).run Try.prog w = .ok (.agg g.cells) w := row_load h Try.underlying42 rfl gotT
theorem doc_bel (w : World) (c : Tk) (y : AS) (TV : Value) : Below w.heap.size w ((w.alloc (.cells docZ 39)).setCells w.heap.size 0 (docA c y TV).toList) := below_put (bel_new _ _) (Nat.le_refl _) (Nat.le_refl _) _ _
theorem doc_at (w : World) (c : Tk) (y : AS) (TV : Value) : Blk ((w.alloc (.cells docZ 39)).setCells w.heap.size 0 (docA c y TV).toList) w.heap.size 39 (docA c y TV) := (Blk.new w 39 docZ).putA _ rfl
theorem doc_put (w : World) (c : Tk) (y : AS) (TV : Value) (hV : c.V.oneCell' = true) (hT : TV.oneCell' = true) : (Instr.storeAt 39 (.pointer (some ⟨w.heap.size, 0, none⟩)) (.agg (docA c y TV))).run Try.prog (w.alloc (.cells docZ 39)) = .ok () ((w.alloc (.cells docZ 39)).setCells w.heap.size 0 (docA c y TV).toList) :=
  doc_store (Blk.new w 39 docZ) rfl c y TV hV hT
theorem doc_told {w : World} {g t : Nat} {c : Tk} {x : AS} {TV : Value} (h : Blk w g t (docA c x TV)) : (Instr.loadAt 37 (.pointer (some ⟨g, 10, none⟩))).run Try.prog w = .ok (.agg (toldA c (tsOf x TV))) w :=
  row_load_mid h 10 (toldA c (tsOf x TV)) rfl Try.underlying37 rfl toldT
theorem opx_load {w : World} {b : Nat} {y : AS} (h : Blk w b 44 (opX y)) : (Instr.loadAt 44 (.pointer (some ⟨b, 0, none⟩))).run Try.prog w = .ok (.agg (opX y)) w := op_load h
/-- A load, as what yields in the worlds that are held. -/
theorem yieldsIf_loadE {P : Program} {ops : Array Oper} {S : World → Prop} {o : Oper} {v : Value} {a : Act} {ty : TypeId} {p : Value} (hw : Region.wanted o (yielded ops a.tmps) = true) (x : Operand) (ho : o.op = .load ty x) (hx : a.eval x = p)
    (h : ∀ w, S w → (Instr.loadAt ty p).run P w = .ok v w) : YieldsIf P ops S o v a := by
  refine .inl ⟨hw, fun w hS => ?_⟩
  unfold execOp
  simp only [ho, hx, Sem.run_bind, Result.andThen_ok, h w hS]
  rfl
theorem load_int {w : World} {b o : Nat} {v : Int} (h : w.cell? ⟨b, o, none⟩ = some (.int .i64 v)) : (Instr.loadAt 3 (.pointer (some ⟨b, o, none⟩))).run Try.prog w = .ok (.int .i64 v) w := by
  simp [go_sem, h]
/-- Two that are the same, compared. -/
theorem yieldsIf_neqI {P : Program} {ops : Array Oper} {S : World → Prop} {o : Oper} {a : Act} {t t' : TypeId} {k : IntKind} {n : Int} (hw : Region.wanted o (yielded ops a.tmps) = true) (x y : Operand) (ho : o.op = .binOp .neq t x y t') (hx : a.eval x = .int k n) (hy : a.eval y = .int k n) :
    YieldsIf P ops S o (.bool false) a := by
  refine .inl ⟨hw, fun w _ => ?_⟩
  unfold execOp
  simp only [ho, hx, hy]
  simp [go_sem]
theorem yieldsIf_neqB {ops : Array Oper} {S : World → Prop} {o : Oper} {a : Act} {t' : TypeId} {b : Bool} (hw : Region.wanted o (yielded ops a.tmps) = true) (x y : Operand) (ho : o.op = .binOp .neq 4 x y t') (hx : a.eval x = .bool b) (hy : a.eval y = .bool b) :
    YieldsIf Try.prog ops S o (.bool false) a := by
  refine .inl ⟨hw, fun w _ => ?_⟩
  unfold execOp
  simp only [ho, hx, hy]
  cases b <;> kernel_rfl
/-- The document's answer, stored: its task, its operation. -/
theorem doc_op (w : World) (c : Tk) (y : AS) (TV : Value) (hV : c.V.oneCell' = true) (hT : TV.oneCell' = true) :
    ∃ Y2 Y3 : World, (Instr.storeAt 39 (.pointer (some ⟨w.heap.size, 0, none⟩)) (.agg (docA c y TV))).run Try.prog ((w.alloc (.cells docZ 39)).alloc (.cells opZ 44)) = .ok () Y2 ∧
      (Instr.storeAt 44 (.pointer (some ⟨w.heap.size + 1, 0, none⟩)) (.agg (opX y))).run Try.prog Y2 = .ok () Y3 ∧
      Blk Y3 w.heap.size 39 (docA c y TV) ∧ Blk Y3 (w.heap.size + 1) 44 (opX y) ∧ Below w.heap.size w Y3 := by
  have s1 : (w.alloc (.cells docZ 39)).heap.size = w.heap.size + 1 := by simp only [World.alloc, Array.size_push]
  have B1 : Blk ((w.alloc (.cells docZ 39)).alloc (.cells opZ 44)) w.heap.size 39 docZ := (Blk.new w 39 docZ).alloc _
  have O1 : Blk ((w.alloc (.cells docZ 39)).alloc (.cells opZ 44)) (w.heap.size + 1) 44 opZ := by rw [← s1]; exact Blk.new _ _ _
  have b1 : Below w.heap.size w ((w.alloc (.cells docZ 39)).alloc (.cells opZ 44)) := (bel_new w _).alloc (by rw [s1]; omega) _
  have O2 := O1.apart (show w.heap.size + 1 ≠ w.heap.size by omega) (docA c y TV).toList 0
  have B2 := B1.putA (docA c y TV) rfl
  have b2 := below_put b1 (Nat.le_refl _) (Nat.le_refl w.heap.size) (docA c y TV).toList 0
  exact ⟨_, _, doc_store B1 rfl c y TV hV hT, op_store O2 rfl y.k y.a y.n y.id, B2.apart (by omega) _ _, O2.putA _ rfl, below_put b2 (Nat.le_refl _) (by omega) _ _⟩
theorem Gots.tch {w w' : World} {T g n : Nat} {gs : List GD} (h : Gots w w.heap.size (some ⟨g, 0, none⟩) n gs) (ht : Tch (fun k => k = T) w w') (hg : g ≠ T) (hV : ∀ x ∈ gs, NotAt T x.V) : Gots w' w'.heap.size (some ⟨g, 0, none⟩) n gs := by
  refine ⟨⟨h.1.1, h.1.2.1, fun hn => ?_⟩, fun x hx => ⟨(h.2 x hx).1, (h.2 x hx).2.1, fun h0 => ?_⟩⟩
  · obtain ⟨b, o, e, hb, hc⟩ := h.1.2.2 hn
    injection e with e
    injection e with e1 e2
    subst e1 e2
    exact ⟨g, 0, rfl, Nat.lt_of_lt_of_le hb ht.size, fun i c hi => rangeAt_keep (hc i c hi) fun j => ht.cell (p := ⟨g, j, none⟩) hb hg⟩
  · obtain ⟨b, o, e, hb, hc⟩ := (h.2 x hx).2.2 h0
    have hn := hV x hx b o none x.vn x.vc (by unfold GD.V; rw [e]) h0
    exact ⟨b, o, e, Nat.lt_of_lt_of_le hb ht.size, fun k u hu => (ht.cell (p := ⟨b, o + k, none⟩) hb hn).trans (hc k u hu)⟩
end Go.Proofs.Ytkhnnjeinpojkaa
