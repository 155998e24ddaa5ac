/- What lies in memory in the law EpochSafe. -/
import Derived.Test.YtgcoecibhonfnaaSafQ
namespace Go.Proofs.Ytgcoecibhonfnaa
open Go.RowKit
structure MemS (w0 w : World) (g gw gp q : Nat) (kd nn : Int) (p : EpP) (s : EpS) (pin sl tm : List Int) (SA : Option Addr) (sn sc : Nat) (TA : Option Addr) (tn tc : Nat) : Prop where
  e : EpAt w w0.heap.size p s
  pi : IB w gp 3 .i64 pin
  so : OwnO w w0.heap.size SA sn sc sl
  to : OwnO w w0.heap.size TA tn tc tm
  d : Blk w q 30 #[.int .i64 kd, .int .i64 nn]
  np : ¬ p.blk gp
  nq : ¬ p.blk q
  gpb : w0.heap.size ≤ gp
  qb : w0.heap.size ≤ q
  ns : ∀ a, SA = some a → ¬ p.blk a.block ∧ a.block ≠ gp
  nt : ∀ a, TA = some a → ¬ p.blk a.block ∧ a.block ≠ gp
  nst : ∀ a b, SA = some a → TA = some b → a.block ≠ b.block
  pg : p.g = g
  pw : p.gw = gw
  b : Below w0.heap.size w0 w
section
variable {w0 w w' : World} {g gw gp q : Nat} {kd nn : Int} {p : EpP} {s : EpS} {pin sl tm : List Int} {SA TA : Option Addr} {sn sc tn tc : Nat}
theorem own_ne {b1 b2 : Nat} {t1 t2 : TypeId} {c1 c2 : Array Value} (h1 : w.heap[b1]? = some (.cells c1 t1 (0, 0))) (h2 : w.heap[b2]? = some (.cells c2 t2 (0, 0))) (ht : t1 ≠ t2) : b1 ≠ b2 := by
  rintro rfl
  rw [h1] at h2
  injection h2 with h2
  injection h2 with _ h2
  exact ht h2
theorem MemS.qg (h : MemS w0 w g gw gp q kd nn p s pin sl tm SA sn sc TA tn tc) : q ≠ gp := by
  obtain ⟨rest, hr⟩ := h.pi
  exact own_ne h.d hr (by decide)
theorem MemS.qs (h : MemS w0 w g gw gp q kd nn p s pin sl tm SA sn sc TA tn tc) : (∀ a, SA = some a → q ≠ a.block) ∧ ∀ a, TA = some a → q ≠ a.block := by
  constructor
  · intro a ha
    obtain ⟨b, o, cur, rfl, _, hr, _⟩ := h.so.2.2.2.2 a ha
    exact own_ne h.d hr (by decide)
  · intro a ha
    obtain ⟨b, o, cur, rfl, _, hr, _⟩ := h.to.2.2.2.2 a ha
    exact own_ne h.d hr (by decide)
theorem MemS.below (h : MemS w0 w g gw gp q kd nn p s pin sl tm SA sn sc TA tn tc) (hb : Below w.heap.size w w') : MemS w0 w' g gw gp q kd nn p s pin sl tm SA sn sc TA tn tc :=
  ⟨h.e.below hb, h.pi.below hb h.pi.lt, h.so.below hb, h.to.below hb, h.d.below hb h.d.lt, h.np, h.nq, h.gpb, h.qb, h.ns, h.nt, h.nst, h.pg, h.pw, h.b.trans (hb.mono h.b.size)⟩
theorem MemS.drewN (h : MemS w0 w g gw gp q kd nn p s pin sl tm SA sn sc TA tn tc) (n : Nat) : MemS w0 (w.drewN n) g gw gp q kd nn p s pin sl tm SA sn sc TA tn tc :=
  ⟨h.e.drewN n, h.pi, h.so, h.to, h.d, h.np, h.nq, h.gpb, h.qb, h.ns, h.nt, h.nst, h.pg, h.pw, below_drewN h.b n⟩
theorem MemS.deed (h : MemS w0 w g gw gp q kd nn p s pin sl tm SA sn sc TA tn tc) (kd' nn' : Int) : MemS w0 (w.alloc (.cells #[.int .i64 kd', .int .i64 nn'] 30)) g gw gp w.heap.size kd' nn' p s pin sl tm SA sn sc TA tn tc := by
  have h' := h.below ((Below.refl _ w).alloc (Nat.le_refl _) (.cells #[.int .i64 kd', .int .i64 nn'] 30))
  exact ⟨h'.e, h'.pi, h'.so, h'.to, Blk.new _ _ _, h'.np, fun e => by have := h.e.lt _ e; omega, h'.gpb, h.b.size, h'.ns, h'.nt, h'.nst, h'.pg, h'.pw, h'.b⟩
theorem MemS.prog (h : MemS w0 w g gw gp q kd nn p s pin sl tm SA sn sc TA tn tc) {p' : EpP} {s' : EpS} (he : EpAt w' w0.heap.size p' s') (hg : p'.g = p.g) (hw : p'.gw = p.gw) (hk : ∀ k, p'.blk k → p.blk k ∨ w.heap.size ≤ k) (ht : Tch p.blk w w') :
    MemS w0 w' g gw gp q kd nn p' s' pin sl tm SA sn sc TA tn tc := by
  have hno : ∀ {k}, ¬ p.blk k → k < w.heap.size → ¬ p'.blk k := fun hn hl e => by
    rcases hk _ e with e | e
    · exact hn e
    · omega
  refine ⟨he, ?_, h.so.keep fun a ha => ht.block _ (h.so.lt ha).2 (h.ns a ha).1, h.to.keep fun a ha => ht.block _ (h.to.lt ha).2 (h.nt a ha).1, (ht.block q h.d.lt h.nq).trans h.d, hno h.np h.pi.lt, hno h.nq h.d.lt, h.gpb, h.qb, fun a ha => ⟨hno (h.ns a ha).1 (h.so.lt ha).2, (h.ns a ha).2⟩, fun a ha => ⟨hno (h.nt a ha).1 (h.to.lt ha).2, (h.nt a ha).2⟩, h.nst, hg.trans h.pg, hw.trans h.pw, h.b.trans (ht.below h.b.size h.e.base_le)⟩
  obtain ⟨rest, hr⟩ := h.pi
  exact ⟨rest, (ht.block gp h.pi.lt h.np).trans hr⟩
theorem MemS.pset (h : MemS w0 w g gw gp q kd nn p s pin sl tm SA sn sc TA tn tc) {i : Nat} (hi : i < pin.length) (u : Int) : MemS w0 (w.setCell ⟨gp, i, none⟩ (.int .i64 u)) g gw gp q kd nn p s (pin.set i u) sl tm SA sn sc TA tn tc := by
  have hf : ∀ k, k ≠ gp → (w.setCell ⟨gp, i, none⟩ (.int .i64 u)).heap[k]? = w.heap[k]? := fun k hk => Below.heap_setCell w ⟨gp, i, none⟩ _ k hk
  exact ⟨h.e.keep fun k hk => hf k (fun e => h.np (by rw [← e]; exact hk)), h.pi.set_ hi u, h.so.keep fun a ha => hf _ (h.ns a ha).2, h.to.keep fun a ha => hf _ (h.nt a ha).2, (hf q h.qg).trans h.d, h.np, h.nq, h.gpb, h.qb, h.ns, h.nt, h.nst, h.pg, h.pw, h.b.setCell (p := ⟨gp, i, none⟩) h.gpb _⟩
theorem MemS.pushS (h : MemS w0 w g gw gp q kd nn p s pin sl tm SA sn sc TA tn tc) {A' : Option Addr} {c' n' : Nat} {sl' : List Int} (ho : OwnO w' w0.heap.size A' n' c' sl') (hA : ∀ a', A' = some a' → (∃ a0, SA = some a0 ∧ a0.block = a'.block) ∨ w.heap.size ≤ a'.block)
    (hb : Below w0.heap.size w w') (hk : ∀ k, k < w.heap.size → (∀ a0, SA = some a0 → a0.block ≠ k) → w'.heap[k]? = w.heap[k]?) : MemS w0 w' g gw gp q kd nn p s pin sl' tm A' n' c' TA tn tc := by
  have hp : ∀ k, p.blk k → w'.heap[k]? = w.heap[k]? := fun k hk' => hk k (h.e.lt k hk') fun a ha e => (h.ns a ha).1 (by rw [e]; exact hk')
  refine ⟨h.e.keep hp, ?_, ho, h.to.keep fun a ha => hk _ (h.to.lt ha).2 fun a0 h0 => h.nst a0 a h0 ha, (hk q h.d.lt fun a0 h0 => fun e => h.qs.1 a0 h0 e.symm).trans h.d, h.np, h.nq, h.gpb, h.qb, fun a ha => ?_, h.nt, fun a b ha hb' => ?_, h.pg, h.pw, h.b.trans hb⟩
  · obtain ⟨rest, hr⟩ := h.pi
    exact ⟨rest, (hk gp h.pi.lt fun a ha => (h.ns a ha).2).trans hr⟩
  · rcases hA a ha with ⟨a0, h0, e⟩ | hn
    · rw [← e]; exact h.ns a0 h0
    · exact ⟨fun e => by have := h.e.lt _ e; omega, fun e => by have := h.pi.lt; omega⟩
  · rcases hA a ha with ⟨a0, h0, e⟩ | hn
    · rw [← e]; exact h.nst a0 b h0 hb'
    · have := (h.to.lt hb').2; omega
theorem MemS.pushT (h : MemS w0 w g gw gp q kd nn p s pin sl tm SA sn sc TA tn tc) {A' : Option Addr} {c' n' : Nat} {tm' : List Int} (ho : OwnO w' w0.heap.size A' n' c' tm') (hA : ∀ a', A' = some a' → (∃ a0, TA = some a0 ∧ a0.block = a'.block) ∨ w.heap.size ≤ a'.block)
    (hb : Below w0.heap.size w w') (hk : ∀ k, k < w.heap.size → (∀ a0, TA = some a0 → a0.block ≠ k) → w'.heap[k]? = w.heap[k]?) : MemS w0 w' g gw gp q kd nn p s pin sl tm' SA sn sc A' n' c' := by
  have hp : ∀ k, p.blk k → w'.heap[k]? = w.heap[k]? := fun k hk' => hk k (h.e.lt k hk') fun a ha e => (h.nt a ha).1 (by rw [e]; exact hk')
  refine ⟨h.e.keep hp, ?_, h.so.keep fun a ha => hk _ (h.so.lt ha).2 fun a0 h0 => fun e => h.nst a a0 ha h0 e.symm, ho, (hk q h.d.lt fun a0 h0 => fun e => h.qs.2 a0 h0 e.symm).trans h.d, h.np, h.nq, h.gpb, h.qb, h.ns, fun a ha => ?_, fun a b ha hb' => ?_, h.pg, h.pw, h.b.trans hb⟩
  · obtain ⟨rest, hr⟩ := h.pi
    exact ⟨rest, (hk gp h.pi.lt fun a ha => (h.nt a ha).2).trans hr⟩
  · rcases hA a ha with ⟨a0, h0, e⟩ | hn
    · rw [← e]; exact h.nt a0 h0
    · exact ⟨fun e => by have := h.e.lt _ e; omega, fun e => by have := h.pi.lt; omega⟩
  · rcases hA b hb' with ⟨a0, h0, e⟩ | hn
    · rw [← e]; exact h.nst a a0 ha h0
    · have := (h.so.lt ha).2; omega
theorem MemS.drops (h : MemS w0 w g gw gp q kd nn p s pin sl tm SA sn sc TA tn tc) (h1 : 0 < sn) (h2 : 0 < tn) : MemS w0 w g gw gp q kd nn p s pin (sl.drop 1) (tm.drop 1) (subA SA 1 sc) (sn - 1) (sc - 1) (subA TA 1 tc) (tn - 1) (tc - 1) := by
  refine ⟨h.e, h.pi, h.so.drop h1, h.to.drop h2, h.d, h.np, h.nq, h.gpb, h.qb, fun a ha => ?_, fun a ha => ?_, fun a b ha hb => ?_, h.pg, h.pw, h.b⟩
  · obtain ⟨a', h', e⟩ := subA_block ha
    rw [e]; exact h.ns a' h'
  · obtain ⟨a', h', e⟩ := subA_block ha
    rw [e]; exact h.nt a' h'
  · obtain ⟨a', h', e⟩ := subA_block ha
    obtain ⟨b', h'', e'⟩ := subA_block hb
    rw [e, e']; exact h.nst a' b' h' h''
end
/-- The same with no deed. -/
structure MemO (w0 w : World) (g gw gp : Nat) (p : EpP) (s : EpS) (pin sl tm : List Int) (SA : Option Addr) (sn sc : Nat) (TA : Option Addr) (tn tc : Nat) : Prop where
  e : EpAt w w0.heap.size p s
  pi : IB w gp 3 .i64 pin
  so : OwnO w w0.heap.size SA sn sc sl
  to : OwnO w w0.heap.size TA tn tc tm
  np : ¬ p.blk gp
  gpb : w0.heap.size ≤ gp
  ns : ∀ a, SA = some a → ¬ p.blk a.block ∧ a.block ≠ gp
  nt : ∀ a, TA = some a → ¬ p.blk a.block ∧ a.block ≠ gp
  nst : ∀ a b, SA = some a → TA = some b → a.block ≠ b.block
  pg : p.g = g
  pw : p.gw = gw
  b : Below w0.heap.size w0 w
section
variable {w0 w w' : World} {g gw gp q : Nat} {kd nn : Int} {p : EpP} {s : EpS} {pin sl tm : List Int} {SA TA : Option Addr} {sn sc tn tc : Nat}
theorem MemS.o (h : MemS w0 w g gw gp q kd nn p s pin sl tm SA sn sc TA tn tc) : MemO w0 w g gw gp p s pin sl tm SA sn sc TA tn tc := ⟨h.e, h.pi, h.so, h.to, h.np, h.gpb, h.ns, h.nt, h.nst, h.pg, h.pw, h.b⟩
theorem MemO.deed (h : MemO w0 w g gw gp p s pin sl tm SA sn sc TA tn tc) (kd nn : Int) : MemS w0 (w.alloc (.cells #[.int .i64 kd, .int .i64 nn] 30)) g gw gp w.heap.size kd nn p s pin sl tm SA sn sc TA tn tc := by
  have hb : Below w.heap.size w (w.alloc (.cells #[.int .i64 kd, .int .i64 nn] 30)) := (Below.refl _ w).alloc (Nat.le_refl _) _
  exact ⟨h.e.below hb, h.pi.below hb h.pi.lt, h.so.below hb, h.to.below hb, Blk.new _ _ _, h.np, fun e => by have := h.e.lt _ e; omega, h.gpb, h.b.size, h.ns, h.nt, h.nst, h.pg, h.pw, h.b.trans (hb.mono h.b.size)⟩
theorem MemO.prog (h : MemO w0 w g gw gp p s pin sl tm SA sn sc TA tn tc) {s' : EpS} (he : EpAt w' w0.heap.size p s') (ht : Tch p.blk w w') : MemO w0 w' g gw gp p s' pin sl tm SA sn sc TA tn tc := by
  refine ⟨he, ?_, h.so.keep fun a ha => ht.block _ (h.so.lt ha).2 (h.ns a ha).1, h.to.keep fun a ha => ht.block _ (h.to.lt ha).2 (h.nt a ha).1, h.np, h.gpb, h.ns, h.nt, h.nst, h.pg, h.pw, h.b.trans (ht.below h.b.size h.e.base_le)⟩
  obtain ⟨rest, hr⟩ := h.pi
  exact ⟨rest, (ht.block gp h.pi.lt h.np).trans hr⟩
end
theorem elemI : ∀ w, (sizeOf (Try.prog.elem 28)).run Try.prog w = .ok 1 w := fun w => by kernel_rfl
theorem make_intsS (kl kc : IntKind) (n : Nat) (hn : n ≤ 64) (w : World) :
    (Instr.makeSlice 28 (.int kl (n : Int)) (.int kc (n : Int))).run Try.prog w = .ok (.slice (some ⟨w.heap.size, 0, none⟩) n n) (w.alloc (.cells (madeCells #[.int .i64 0] n) 3)) := by
  have h : (Try.prog.info? 3).map (fun i => (i.zero.map Value.cells, i.size, i.bytes)) = some (some #[.int .i64 0], 1, 8) := by kernel_rfl
  obtain ⟨i, hi, hzz⟩ := Option.map_eq_some_iff.1 h
  simp only [Prod.mk.injEq] at hzz
  obtain ⟨hz, hs, hb⟩ := hzz
  obtain ⟨z, hz1, hz2⟩ := Option.map_eq_some_iff.1 hz
  have hr := run_make (P := Try.prog) w 28 3 i z Try.underlying28 hi hz1 kl kc n n (by omega) (Int.le_refl _) (by rw [hb]; omega) (by omega)
  simp only [Int.toNat_natCast, hs, hz2, Nat.mul_one] at hr
  exact hr
end Go.Proofs.Ytgcoecibhonfnaa
