/- Refs by ids: what lies in memory; Shard, Get, Put, Drop, Version, Len. Printed by genIdA.py out of IdA.frame. -/
import Derived.Test.YthcmajeamandfaaIdP
import Derived.Test.YthcmajeamandfaaRngW
import Derived.Test.YthcmajeamandfaaRow
import Derived.Test.YthcmajeamandfaaTch
import Derived.Test.YthcmajeamandfaaYlP
import Derived.Maps.OwnOps
import Derived.Deep.Cut
import Derived.Deep.Draws
import Derived.Deep.CutRange
import Derived.Deep.RegionHeld
import Derived.Deep.WholeRow
import Derived.Shelf.Abstract
import Derived.Lib.Hide
import Derived.Deep.QuietTactic
import Derived.BigQuiet
import Derived.Maps.OwnSet
namespace Go.Proofs.Ythcmajeamandfaa
open Go.RowKit Go.Maps Go.ChangeMaps Go.MapKept
theorem bel_boxN (w : World) (o : Obj) : Below w.heap.size w (w.alloc o) := (Below.refl _ w).alloc (Nat.le_refl _) _
theorem nodup_at {α : Type} {l : List α} (h : l.Nodup) {i j : Nat} {b : α} (hi : l[i]? = some b) (hj : l[j]? = some b) : i = j := by
  obtain ⟨a1, a2⟩ := List.getElem?_eq_some_iff.1 hi
  obtain ⟨a3, a4⟩ := List.getElem?_eq_some_iff.1 hj
  refine Classical.byContradiction fun hne => ?_
  have hp := List.pairwise_iff_getElem.1 h
  rcases Nat.lt_or_gt_of_ne hne with q | q
  · exact hp i j a1 a3 q (a2.trans a4.symm)
  · exact hp j i a3 a1 q (a4.trans a2.symm)
theorem lawUN : Keyed Try.prog 28 := int_keyed Try.underlying28
def ref0 : Array Value := #[.int .i64 0, .int .i64 0]
def refC (x : Nm) : Array Value := #[.int .i64 x.slot, .int .i64 x.gen]
theorem refTN : (Try.prog.info? 32).map (·.size) = some 2 := by kernel_rfl
theorem zeroRN : ∀ w, (zeroValue 32).run Try.prog w = .ok (refV ⟨0, 0, 0⟩) w := by
  have h : (Try.prog.info? 32).map (fun i => (i.zero, i.size)) = some (some (refV ⟨0, 0, 0⟩), 2) := by kernel_rfl
  exact (zero_of_info h).1
theorem ref_load {w : World} {b t : Nat} {x : Nm} (h : Blk w b t (refC x)) : (Instr.loadAt 32 (.pointer (some ⟨b, 0, none⟩))).run Try.prog w = .ok (refV x) w := row_load h Try.underlying32 rfl refTN
theorem ref_put (W : World) (x : Nm) : (Instr.storeAt 32 (.pointer (some ⟨W.heap.size, 0, none⟩)) (refV x)).run Try.prog (W.alloc (.cells #[.int .i64 0, .int .i64 0] 32)) = .ok () ((W.alloc (.cells #[.int .i64 0, .int .i64 0] 32)).setCells W.heap.size 0 (refC x).toList) :=
  row_store (Blk.new W 32 ref0) (refC x) rfl refTN (by simp [refC, Value.oneCell'])
theorem ref_blk (W : World) (x : Nm) : Blk ((W.alloc (.cells #[.int .i64 0, .int .i64 0] 32)).setCells W.heap.size 0 (refC x).toList) W.heap.size 32 (refC x) := (Blk.new W 32 ref0).put _ rfl
theorem put_belN (W : World) (o : Obj) (vs : List Value) : Below W.heap.size W ((W.alloc o).setCells W.heap.size 0 vs) :=
  (Tch.setCells (S := fun k => k = W.heap.size) rfl vs 0 (W.alloc o) ((Tch.refl _ W).alloc o)).below (Nat.le_refl _) (fun _ hk => Nat.le_of_eq hk.symm)
theorem wpAnyH_makeN {P : Program} {ops : Array Oper} {Q : Exit → Act → World → Prop} {md : Region.Mode} {S : World → Prop} {fuel : Nat} {listed : Array Bool} {a : Act} {w w' : World} {o : Oper} (i : Nat) (v : Value) (hr : Region.ready md ops listed = [i]) (ho : ops[i]? = some o) (hw : Region.wanted o (yielded ops a.tmps) = true)
    (hrun : (execOp a.eval o).run P w = .ok (.value v) w') (hS : S w') (h : wpAnyH P md ops Q S fuel (listed.setIfInBounds i true) (a.put o.dst v) w') : wpAnyH P md ops Q S (fuel + 1) listed a w := by
  refine wpAnyH_ready hr (by simp) (AllReadyH.cons ho (fun K hK => ?_) AllReadyH.nil)
  rw [if_pos hw]
  unfold Oper.wp
  rw [hrun]
  exact hK.out _ _ hS (fun _ => h)
theorem results_row11N {P : Program} {fn : Func} {p u : Tmp} {t1 : TypeId} (h : fn.results = #[.cell p t1, .tmp u]) (tmps : Array Value) {w : World} {g1 : Nat} {c1 : Array Value} {d1 : TypeDesc}
    (hp : tmps.getD p undef = .pointer (some ⟨g1, 0, none⟩)) {u1 : Nat} (b1 : Blk w g1 u1 c1)
    (hu1 : P.underlying t1 = some d1) (hd1 : (match d1 with | .struct _ | .array _ _ => true | _ => false) = true) (hi1 : (P.info? t1).map (·.size) = some c1.size) :
    (results fn tmps).run P w = .ok (.tuple #[.agg c1, tmps.getD u undef]) w := by
  have hp' : tmps[p]?.getD undef = .pointer (some ⟨g1, 0, none⟩) := by simpa using hp
  simp [results, h, hp', asAddr, run_loadVar_row w g1 u1 t1 c1 (0, 0) d1 b1 hu1 hd1 hi1, Result.andThen]
theorem yieldsIf_indexN {ops : Array Oper} {S : World → Prop} {o : Oper} {a : Act} {T E sz b off n c k : Nat} (hT : Try.prog.underlying T = some (.slice E)) (hz : ∀ w, (sizeOf (Try.prog.elem T)).run Try.prog w = .ok sz w) (hw : Region.wanted o (yielded ops a.tmps) = true) (x y : Operand) (ho : o.op = .indexAddr T x y) (hx : a.eval x = .slice (some ⟨b, off, none⟩) n c) (hy : a.eval y = .int .i64 (k : Int)) (hk : k < n) :
    YieldsIf Try.prog ops S o (.pointer (some ⟨b, off + k * sz, none⟩)) a := by
  refine .inl ⟨hw, fun w _ => ?_⟩
  have he : Try.prog.elem T = E := by unfold Program.elem; rw [hT]
  rw [he] at hz
  have h0 : ¬ ((k : Int) < 0) := by omega
  unfold execOp
  simp only [ho, hx, hy]
  simp [go_sem, hT, hz, hk]
theorem yieldsIf_convN {ops : Array Oper} {S : World → Prop} {o : Oper} {a : Act} {t t' : TypeId} {k k' : IntKind} {z z' : Int} (ht : Try.prog.underlying t = some (.int k)) (ht' : Try.prog.underlying t' = some (.int k')) (hr : k'.wrap z = z') (hw : Region.wanted o (yielded ops a.tmps) = true) (x : Operand) (ho : o.op = .convert t t' x) (hx : a.eval x = .int k z) : YieldsIf Try.prog ops S o (.int k' z') a := by
  refine .inl ⟨hw, fun w _ => ?_⟩
  unfold execOp
  simp only [ho, hx]
  simp [go_sem, ht, ht', hr]
theorem yieldsIf_lookN {ops : Array Oper} {S : World → Prop} {o : Oper} {a : Act} {t : TypeId} {m key v : Value} (hw : Region.wanted o (yielded ops a.tmps) = true) (x y : Operand) (ho : o.op = .lookup t x y true) (hx : a.eval x = m) (hy : a.eval y = key) (h : ∀ w, S w → (Instr.lookup t m key true).run Try.prog w = .ok v w) : YieldsIf Try.prog ops S o v a := by
  refine .inl ⟨hw, fun w hS => ?_⟩
  unfold execOp
  simp only [ho, hx, hy, Sem.run_bind, Result.andThen_ok, h w hS]
  rfl
theorem wpAnyH_updN {P : Program} {ops : Array Oper} {Q : Exit → Act → World → Prop} {md : Region.Mode} {S : World → Prop} {fuel : Nat} {listed : Array Bool} {a : Act} {w w' : World} {o : Oper} (i : Nat) (t : TypeId) (m x v : Operand) (hr : Region.ready md ops listed = [i]) (ho : ops[i]? = some o) (hw : Region.wanted o (yielded ops a.tmps) = true) (hop : o.op = .mapUpdate t m x v) {mv kv vv : Value} (hm : a.eval m = mv) (hx : a.eval x = kv) (hv : a.eval v = vv)
    (hrun : (Instr.mapUpdate t mv kv vv).run P w = .ok () w') (hS : S w') (h : wpAnyH P md ops Q S fuel (listed.setIfInBounds i true) (a.put o.dst undef) w') : wpAnyH P md ops Q S (fuel + 1) listed a w := by
  refine wpAnyH_ready hr (by simp) (AllReadyH.cons ho (fun K hK => ?_) AllReadyH.nil)
  rw [if_pos hw]
  unfold Oper.wp execOp
  simp only [hop, hm, hx, hv, Sem.run_bind, Result.andThen_ok, hrun]
  exact hK.out _ _ hS (fun _ => h)
theorem wpAnyH_delN {P : Program} {ops : Array Oper} {Q : Exit → Act → World → Prop} {md : Region.Mode} {S : World → Prop} {fuel : Nat} {listed : Array Bool} {a : Act} {w w' : World} {o : Oper} (i : Nat) (t k : TypeId) (m x : Operand) (hr : Region.ready md ops listed = [i]) (ho : ops[i]? = some o) (hw : Region.wanted o (yielded ops a.tmps) = true) (hop : o.op = Op.call { callee := Callee.builtin Builtin.delete, args := #[m, x], argTypes := #[t, k] }) {mv kv : Value} (hm : a.eval m = mv) (hx : a.eval x = kv)
    (hrun : (Builtin.delete_ #[t, k] o.type #[mv, kv]).run P w = .ok (.tuple #[]) w') (hS : S w') (h : wpAnyH P md ops Q S fuel (listed.setIfInBounds i true) (a.put o.dst (.tuple #[])) w') : wpAnyH P md ops Q S (fuel + 1) listed a w := by
  refine wpAnyH_ready hr (by simp) (AllReadyH.cons ho (fun K hK => ?_) AllReadyH.nil)
  rw [if_pos hw]
  unfold Oper.wp
  simp [execOp, hop, resolve, invoke, builtin, hm, hx, hrun, Result.andThen]
  exact hK.out _ _ hS (fun _ => h)
theorem sizeMN : ∀ w, (sizeOf (Try.prog.elem 52)).run Try.prog w = .ok 1 w := by
  intro w
  have : Try.prog.elem 52 = 55 := by unfold Program.elem; rw [Try.underlying52]
  rw [this]
  exact Try.sizeOf55 w
/-- An id's shard. -/
def shI (k : Nat) (id : Int) : Nat := (belowI (mixI id) k).toNat % k
theorem shI_lt {k : Nat} (hk : 0 < k) (id : Int) : shI k id < k := Nat.mod_lt _ hk
theorem shI_eq {k : Nat} (hk : 0 < k) {id : Int} (h : Word id) : belowI (mixI id) k = ((shI k id : Nat) : Int) := by
  have hb := belowI_bd (word_mixI h) (n := (k : Int)) (by omega)
  unfold shI
  have h2 : (belowI (mixI id) k).toNat < k := by have := hb.2.1 (by omega); omega
  rw [Nat.mod_eq_of_lt h2]
  omega
theorem shL_get {k : Nat} {E : List Nm} (id : Int) : getN (shL (shI k) E (shI k id)) id = getN E id := by
  unfold getN shL
  congr 1
  rw [List.find?_filter]
  refine congrArg (fun f => List.find? f E) (funext fun x => ?_)
  by_cases e : x.id = id
  · rw [e]; simp
  · have : (x.id == id) = false := by simpa using e
    rw [this]; simp
theorem shL_any {k : Nat} {E : List Nm} (id : Int) : ((shL (shI k) E (shI k id)).any fun x => x.id == id) = E.any fun x => x.id == id := by
  refine Bool.eq_iff_iff.2 ?_
  rw [any_id, any_id]
  constructor
  · rintro ⟨x, hx, e⟩; exact ⟨x, (shL_mem.1 hx).1, e⟩
  · rintro ⟨x, hx, e⟩; exact ⟨x, shL_mem.2 ⟨hx, by rw [e]⟩, e⟩
/-- A map of refs, in memory. -/
def RfAt (w : World) (b n : Nat) (L : List Nm) : Prop := ∃ D, w.ownsMap Try.prog 28 refElem b n D ∧ RefM D L
theorem RfAt.at_ {w w' : World} {b n : Nat} {L : List Nm} (h : RfAt w b n L) (hb : w'.heap[b]? = w.heap[b]?) : RfAt w' b n L := by
  obtain ⟨D, ⟨es, clock, h1, h2⟩, h3⟩ := h
  exact ⟨D, ⟨es, clock, hb.trans h1, h2⟩, h3⟩
theorem RfAt.lt {w : World} {b n : Nat} {L : List Nm} (h : RfAt w b n L) : b < w.heap.size := by obtain ⟨D, h, _⟩ := h; exact World.ownsMap.lt h
def idC (sb k : Nat) (ver : Int) : Array Value := #[.slice (some ⟨sb, 0, none⟩) k k, .int .i64 ver]
/-- An id map: its box, its shards' row, its shards. -/
structure IdS (w : World) (mp sb k N : Nat) (bs : List Nat) (E : List Nm) (ver : Int) : Prop where
  m : Blk w mp 54 (idC sb k ver)
  s : ∀ i b : Nat, bs[i]? = some b → w.cell? ⟨sb, i, none⟩ = some (.map (some b))
  slt : sb < w.heap.size
  len : bs.length = k
  k0 : 0 < k ∧ k ≤ 64
  nd : bs.Nodup
  ne : mp ∉ bs ∧ sb ∉ bs ∧ mp ≠ sb
  r : ∀ i b : Nat, bs[i]? = some b → RfAt w b N (shL (shI k) E i)
  e : E.Pairwise fun x y => x.id ≠ y.id
/-- What may be written. -/
def idF (mp : Nat) (bs : List Nat) (x : Nat) : Prop := x = mp ∨ x ∈ bs
section
variable {w w' : World} {mp sb k N : Nat} {bs : List Nat} {E : List Nm} {ver : Int}
theorem IdS.keep {S' : Nat → Prop} (S : IdS w mp sb k N bs E ver) (hT : Tch S' w w') (hS : ∀ x, S' x → x ≠ mp ∧ x ≠ sb ∧ x ∉ bs) : IdS w' mp sb k N bs E ver :=
  ⟨S.m.tch hT (fun q => (hS _ q).1 rfl), fun i b hb => (hT.cell (p := ⟨sb, i, none⟩) S.slt (fun q => (hS _ q).2.1 rfl)).trans (S.s i b hb), Nat.lt_of_lt_of_le S.slt hT.size, S.len, S.k0, S.nd, S.ne, fun i b hb => (S.r i b hb).at_ (hT.block b (S.r i b hb).lt (fun q => (hS _ q).2.2 (List.mem_of_getElem? hb))), S.e⟩
theorem IdS.below (S : IdS w mp sb k N bs E ver) (hb : Below w.heap.size w w') : IdS w' mp sb k N bs E ver := S.keep (Tch.of_below (S := fun _ => False) hb) (fun _ q => q.elim)
theorem IdS.more {N' : Nat} (S : IdS w mp sb k N bs E ver) (h : N ≤ N') : IdS w mp sb k N' bs E ver :=
  ⟨S.m, S.s, S.slt, S.len, S.k0, S.nd, S.ne, fun i b hb => by obtain ⟨D, h1, h2⟩ := S.r i b hb; exact ⟨D, h1.mono h, h2⟩, S.e⟩
theorem IdS.at_ (S : IdS w mp sb k N bs E ver) {i : Nat} (hi : i < k) : ∃ b, bs[i]? = some b ∧ w.cell? ⟨sb, i, none⟩ = some (.map (some b)) ∧ RfAt w b N (shL (shI k) E i) := by
  have : ∃ b, bs[i]? = some b := ⟨_, List.getElem?_eq_getElem (by rw [S.len]; exact hi)⟩
  obtain ⟨b, hb⟩ := this
  exact ⟨b, hb, S.s i b hb, S.r i b hb⟩
/-- One shard, written, and the version. -/
theorem IdS.write {w1 : World} {N' : Nat} {E' : List Nm} {ver' : Int} {id : Int} {b : Nat} (S : IdS w mp sb k N bs E ver) (hT : Tch (idF mp bs) w w') (hi : bs[shI k id]? = some b) (hw1 : Tch (fun x => x = b) w w1) (hw2 : Tch (fun x => x = mp) w1 w') (hm : Blk w' mp 54 (idC sb k ver')) (hr : RfAt w1 b N' (shL (shI k) E' (shI k id))) (hN : N ≤ N')
    (hE : ∀ i, i ≠ shI k id → shL (shI k) E' i = shL (shI k) E i) (he : E'.Pairwise fun x y => x.id ≠ y.id) : IdS w' mp sb k N' bs E' ver' := by
  have hbm : b ≠ mp := fun e => S.ne.1 (e ▸ List.mem_of_getElem? hi)
  refine ⟨hm, fun i b' hb => (hT.cell (p := ⟨sb, i, none⟩) S.slt (fun q => ?_)).trans (S.s i b' hb), Nat.lt_of_lt_of_le S.slt hT.size, S.len, S.k0, S.nd, S.ne, fun i b' hb => ?_, he⟩
  · rcases q with q | q
    · exact S.ne.2.2 q.symm
    · exact S.ne.2.1 q
  · by_cases hii : i = shI k id
    · subst hii
      rw [hi] at hb
      injection hb with hb
      subst hb
      exact hr.at_ (hw2.block b hr.lt (fun q => hbm q))
    · rw [hE i hii]
      obtain ⟨D, h1, h2⟩ := S.r i b' hb
      have hbb : b' ≠ b := fun e => by
        subst e
        exact hii (nodup_at S.nd hb hi)
      have hbm' : b' ≠ mp := fun e => S.ne.1 (e ▸ List.mem_of_getElem? hb)
      have l1 := (S.r i b' hb).lt
      have h3 : RfAt w b' N' (shL (shI k) E i) := ⟨D, h1.mono hN, h2⟩
      exact (h3.at_ (hw1.block b' l1 (fun q => hbb q))).at_ (hw2.block b' (Nat.lt_of_lt_of_le l1 hw1.size) (fun q => hbm' q))
theorem load_mapsN {b o : Nat} {A : Option Addr} {n c : Nat} (h : w.cell? ⟨b, o, none⟩ = some (.slice A n c)) : (Instr.loadAt 52 (.pointer (some ⟨b, o, none⟩))).run Try.prog w = .ok (.slice A n c) w := by
  simp [go_sem, h]
theorem load_mapN {b o b' : Nat} (h : w.cell? ⟨b, o, none⟩ = some (.map (some b'))) : (Instr.loadAt 55 (.pointer (some ⟨b, o, none⟩))).run Try.prog w = .ok (.map (some b')) w := by
  simp [go_sem, h]
end
set_option maxRecDepth 100000 in
set_option maxHeartbeats 2000000 in
theorem id_shard {w : World} {mp sb k N : Nat} {bs : List Nat} {E : List Nm} {ver : Int} (S : IdS w mp sb k N bs E ver) (id : Int) (hid : Word id) :
    Calls Try.prog 20 #[.pointer (some ⟨mp, 0, none⟩), .int .u64 id] w (fun e w' => e = .returned (.int .i64 ((shI k id : Nat) : Int)) ∧ Below w.heap.size w w') := by
  have HM := Lib.hid S.m
  have HK := Lib.hid S.k0
  have HW1 : Hid (Word (mixI id)) := word_mixI hid
  have HW2 : Hid (Word ((k : Nat) : Int)) := ⟨by omega, by have := S.k0; omega⟩
  have HE := Lib.hid (shI_eq S.k0.1 hid)
  have hc1 : IntKind.u64.wrap ((k : Nat) : Int) = ((k : Nat) : Int) := wrap_word HW2.out
  have hc2 : IntKind.i64.wrap (belowI (mixI id) k) = ((shI k id : Nat) : Int) := by
    rw [HE.out, IntWalk.i64_left]
    exact IntWalk.wrap64_in _ (by have := shI_lt S.k0.1 id; have := S.k0; omega)
  have HC1 := Lib.hid hc1
  have HC2 := Lib.hid hc2
  clear S hid hc1 hc2
  go_enter Try.func20, Try.ntmps20
  go_upto_region 3 with fail
  refine wp_region_held_drew (S := fun w' => Below w.heap.size w w') (by kernel_rfl) (below_drewN (Below.refl _ w) 1) (fun hH => ?_)
  refine wpAnyH_take (i := 0) (v := .int .u64 id) rfl (by kernel_rfl) (by kernel_rfl) (by kernel_rfl) (fun _ _ _ h => h) (.inl ⟨by rfl, fun _ _ => by kernel_rfl⟩) hH ?_
  (try simp only [List.getElem_toArray, List.getElem_cons_zero, Act.put, List.setIfInBounds_toArray, List.set_cons_zero, List.set_cons_succ])
  refine wpAnyH_take (i := 2) (v := .pointer (some ⟨mp, 0, none⟩)) rfl (by kernel_rfl) (by kernel_rfl) (by kernel_rfl) (fun _ _ _ h => h) (.inl ⟨by rfl, fun _ _ => by kernel_rfl⟩) hH ?_
  (try simp only [List.getElem_toArray, List.getElem_cons_zero, List.getElem_cons_succ, Act.put, List.setIfInBounds_toArray, List.set_cons_zero, List.set_cons_succ])
  refine wpAnyH_take (i := 3) (v := .pointer (some ⟨mp, 0, none⟩)) rfl (by kernel_rfl) (by kernel_rfl) (by kernel_rfl) (fun _ _ _ h => h) (.inl ⟨by rfl, fun _ _ => by kernel_rfl⟩) hH ?_
  (try simp only [List.getElem_toArray, List.getElem_cons_zero, List.getElem_cons_succ, Act.put, List.setIfInBounds_toArray, List.set_cons_zero, List.set_cons_succ])
  refine wpAnyH_take (i := 4) (v := .pointer (some ⟨mp, 0, none⟩)) rfl (by kernel_rfl) (by kernel_rfl) (by kernel_rfl) (fun _ _ _ h => h) (.inl ⟨by rfl, fun _ _ => by kernel_rfl⟩) hH ?_
  (try simp only [List.getElem_toArray, List.getElem_cons_zero, List.getElem_cons_succ, Act.put, List.setIfInBounds_toArray, List.set_cons_zero, List.set_cons_succ])
  refine wpAnyH_take (i := 5) (v := .slice (some ⟨sb, 0, none⟩) k k) rfl (by kernel_rfl) (by kernel_rfl) (by kernel_rfl) (fun _ _ _ h => h) (yieldsIf_loadP (by rfl) _ rfl rfl (fun _ q => load_mapsN ((HM.out.below q HM.out.lt).cell 0))) hH ?_
  (try simp only [List.getElem_toArray, List.getElem_cons_zero, List.getElem_cons_succ, Act.put, List.setIfInBounds_toArray, List.set_cons_zero, List.set_cons_succ])
  refine wpAnyH_take (i := 6) (v := .int .i64 (k : Nat)) rfl (by kernel_rfl) (by kernel_rfl) (by kernel_rfl) (fun _ _ _ h => h) (.inl ⟨by rfl, fun _ _ => by kernel_rfl⟩) hH ?_
  (try simp only [List.getElem_toArray, List.getElem_cons_zero, List.getElem_cons_succ, Act.put, List.setIfInBounds_toArray, List.set_cons_zero, List.set_cons_succ])
  refine wpAnyH_take (i := 7) (v := .int .u64 (k : Nat)) rfl (by kernel_rfl) (by kernel_rfl) (by kernel_rfl) (fun _ _ _ h => h) (yieldsIf_convN Try.underlying3 Try.underlying28 HC1.out (by rfl) _ rfl rfl) hH ?_
  (try simp only [List.getElem_toArray, List.getElem_cons_zero, List.getElem_cons_succ, Act.put, List.setIfInBounds_toArray, List.set_cons_zero, List.set_cons_succ])
  refine wpAnyH_call 1 27 #[.int .u64 id] _ (by kernel_rfl) (by rfl) (by kernel_rfl) (by kernel_rfl) (rng_mix id _) ?_
  rintro e Z ⟨rfl, rfl⟩
  refine ⟨_, rfl, hH, ?_⟩
  (try simp only [List.getElem_toArray, List.getElem_cons_zero, List.getElem_cons_succ, Act.put, List.setIfInBounds_toArray, List.set_cons_zero, List.set_cons_succ])
  refine wpAnyH_call 8 26 #[.int .u64 (mixI id), .int .u64 (k : Nat)] _ (by kernel_rfl) (by rfl) (by kernel_rfl) (by kernel_rfl) (rng_below _ _ HW1.out HW2.out _) ?_
  rintro e Z ⟨rfl, rfl⟩
  refine ⟨_, rfl, hH, ?_⟩
  (try simp only [List.getElem_toArray, List.getElem_cons_zero, List.getElem_cons_succ, Act.put, List.setIfInBounds_toArray, List.set_cons_zero, List.set_cons_succ])
  refine wpAnyH_take (i := 9) (v := .int .i64 ((shI k id : Nat) : Int)) rfl (by kernel_rfl) (by kernel_rfl) (by kernel_rfl) (fun _ _ _ h => h) (yieldsIf_convN Try.underlying28 Try.underlying3 HC2.out (by rfl) _ rfl rfl) hH ?_
  (try simp only [List.getElem_toArray, List.getElem_cons_zero, List.getElem_cons_succ, Act.put, List.setIfInBounds_toArray, List.set_cons_zero, List.set_cons_succ])
  refine wpAnyH_take (i := 10) (v := .int .i64 ((shI k id : Nat) : Int)) rfl (by kernel_rfl) (by kernel_rfl) (by kernel_rfl) (fun _ _ _ h => h) (.inl ⟨by rfl, fun _ _ => by kernel_rfl⟩) hH ?_
  (try simp only [List.getElem_toArray, List.getElem_cons_zero, List.getElem_cons_succ, Act.put, List.setIfInBounds_toArray, List.set_cons_zero, List.set_cons_succ])
  refine wpAnyH_done (by kernel_rfl) ?_ _
  go_wp2_with fail
  go_ret
  exact ⟨rfl, hH⟩
set_option maxRecDepth 100000 in
set_option maxHeartbeats 4000000 in
theorem id_get {w : World} {mp sb k N : Nat} {bs : List Nat} {E : List Nm} {ver : Int} (S : IdS w mp sb k N bs E ver) (id : Int) (hid : Word id) (hwf : (Lit.int .u64 id).wf = true) :
    Calls Try.prog 19 #[.pointer (some ⟨mp, 0, none⟩), .int .u64 id] w (fun e w' => e = .returned (.tuple #[refV (getN E id), .bool (E.any fun x => x.id == id)]) ∧ Below w.heap.size w w') := by
  obtain ⟨w1, hw1⟩ : ∃ x, w.alloc (.cells #[.int .i64 0, .int .i64 0] 32) = x := ⟨_, rfl⟩
  have b1 : Below w.heap.size w w1 := by rw [← hw1]; exact bel_boxN _ _
  have k1 : Blk w1 w.heap.size 32 ref0 := by rw [← hw1]; exact Blk.new _ _ _
  have S1 := S.below b1
  obtain ⟨sh, hsh⟩ : ∃ sh, shI k id = sh := ⟨_, rfl⟩
  have hlt : sh < k := by rw [← hsh]; exact shI_lt S.k0.1 id
  obtain ⟨b, hb, hcb, hrf⟩ := S1.at_ hlt
  have hSH : ∀ W, Below w1.heap.size w1 W → Calls Try.prog 20 #[.pointer (some ⟨mp, 0, none⟩), .int .u64 id] W (fun e w' => e = .returned (.int .i64 ((sh : Nat) : Int)) ∧ Below W.heap.size W w') := fun W hW => by
    have := id_shard (S1.below hW) id hid
    rw [hsh] at this
    exact this
  obtain ⟨x, hx⟩ : ∃ x, getN E id = x := ⟨_, rfl⟩
  obtain ⟨is, his⟩ : ∃ is, (E.any fun x => x.id == id) = is := ⟨_, rfl⟩
  have hlook : ∀ W, Below w1.heap.size w1 W → (Instr.lookup 55 (.map (some b)) (.int .u64 id) true).run Try.prog W = .ok (.tuple #[refV x, .bool is]) W := fun W hW => by
    obtain ⟨D, h1, h2⟩ := hrf.at_ (hW.block b hrf.lt)
    obtain ⟨v, ps, hrun, hv⟩ := World.ownsMap.look_ok h1 lawUN Try.underlying55 (zeroRN W) (refElem_mk ⟨0, 0, 0⟩) (keyOf_int_mk (P := Try.prog) Try.underlying28 hwf)
    rw [h2.get id, ← hsh, shL_get, hx] at hv
    obtain ⟨y, _, rfl, e⟩ := refElem_inv hv
    obtain ⟨e1, e2⟩ := refD_inj (congrArg Prod.fst e)
    have ey : refV y = refV x := by unfold refV; rw [e1, e2]
    rw [hrun, ey, h2.has_ id, ← hsh, shL_any, his]
  rw [hx, his]
  have HSH := Lib.hid hSH
  have HLK := Lib.hid hlook
  have HM1 := Lib.hid S1.m
  have HCB : Hid (∀ W, Below w1.heap.size w1 W → W.cell? ⟨sb, 0 + sh * 1, none⟩ = some (.map (some b))) := fun W hW => by
    rw [Nat.zero_add, Nat.mul_one]
    exact (hW.cell (p := ⟨sb, sh, none⟩) S1.slt).trans hcb
  have HLT := Lib.hid hlt
  have HK1 := Lib.hid k1
  have HB1 := Lib.hid b1
  clear S S1 hid hsh hlt hb hcb hrf hSH hlook k1 b1 hx his hwf
  go_enter Try.func19, Try.ntmps19
  go_upto_region 1 with fail
  (try rw [hw1])
  clear hw1
  go_upto_region 3 with fail
  go_cut [6, 7] from 11 to 24 (fun s6 s7 wx => ∃ g : Nat, s6 = .pointer (some ⟨g, 0, none⟩) ∧ s7 = .bool is ∧ Hid (w1.heap.size ≤ g) ∧ Hid (Below w1.heap.size w1 wx) ∧ Hid (Blk wx g 32 (refC x)))
  case first =>
    refine wp_region_held_drew (S := fun w' => Below w1.heap.size w1 w') (by kernel_rfl) (below_drewN (Below.refl _ w1) 1) (fun hH => ?_)
    refine wpAnyH_take (i := 0) (v := .pointer (some ⟨mp, 0, none⟩)) rfl (by kernel_rfl) (by kernel_rfl) (by kernel_rfl) (fun _ _ _ h => h) (.inl ⟨by rfl, fun _ _ => by kernel_rfl⟩) hH ?_
    (try simp only [List.getElem_toArray, List.getElem_cons_zero, Act.put, List.setIfInBounds_toArray, List.set_cons_zero, List.set_cons_succ])
    refine wpAnyH_take (i := 1) (v := .pointer (some ⟨mp, 0, none⟩)) rfl (by kernel_rfl) (by kernel_rfl) (by kernel_rfl) (fun _ _ _ h => h) (.inl ⟨by rfl, fun _ _ => by kernel_rfl⟩) hH ?_
    (try simp only [List.getElem_toArray, List.getElem_cons_zero, List.getElem_cons_succ, Act.put, List.setIfInBounds_toArray, List.set_cons_zero, List.set_cons_succ])
    refine wpAnyH_take (i := 2) (v := .pointer (some ⟨mp, 0, none⟩)) rfl (by kernel_rfl) (by kernel_rfl) (by kernel_rfl) (fun _ _ _ h => h) (.inl ⟨by rfl, fun _ _ => by kernel_rfl⟩) hH ?_
    (try simp only [List.getElem_toArray, List.getElem_cons_zero, List.getElem_cons_succ, Act.put, List.setIfInBounds_toArray, List.set_cons_zero, List.set_cons_succ])
    refine wpAnyH_take (i := 3) (v := .slice (some ⟨sb, 0, none⟩) k k) rfl (by kernel_rfl) (by kernel_rfl) (by kernel_rfl) (fun _ _ _ h => h) (yieldsIf_loadP (by rfl) _ rfl rfl (fun _ q => load_mapsN ((HM1.out.below q HM1.out.lt).cell 0))) hH ?_
    (try simp only [List.getElem_toArray, List.getElem_cons_zero, List.getElem_cons_succ, Act.put, List.setIfInBounds_toArray, List.set_cons_zero, List.set_cons_succ])
    refine wpAnyH_take (i := 4) (v := .pointer (some ⟨mp, 0, none⟩)) rfl (by kernel_rfl) (by kernel_rfl) (by kernel_rfl) (fun _ _ _ h => h) (.inl ⟨by rfl, fun _ _ => by kernel_rfl⟩) hH ?_
    (try simp only [List.getElem_toArray, List.getElem_cons_zero, List.getElem_cons_succ, Act.put, List.setIfInBounds_toArray, List.set_cons_zero, List.set_cons_succ])
    refine wpAnyH_take (i := 5) (v := .int .u64 id) rfl (by kernel_rfl) (by kernel_rfl) (by kernel_rfl) (fun _ _ _ h => h) (.inl ⟨by rfl, fun _ _ => by kernel_rfl⟩) hH ?_
    (try simp only [List.getElem_toArray, List.getElem_cons_zero, List.getElem_cons_succ, Act.put, List.setIfInBounds_toArray, List.set_cons_zero, List.set_cons_succ])
    refine wpAnyH_take (i := 9) (v := .int .u64 id) rfl (by kernel_rfl) (by kernel_rfl) (by kernel_rfl) (fun _ _ _ h => h) (.inl ⟨by rfl, fun _ _ => by kernel_rfl⟩) hH ?_
    (try simp only [List.getElem_toArray, List.getElem_cons_zero, List.getElem_cons_succ, Act.put, List.setIfInBounds_toArray, List.set_cons_zero, List.set_cons_succ])
    refine wpAnyH_all (rs := [6, 14]) (by kernel_rfl) (by simp) (fun i hi => ?_)
    rcases (by simpa using hi : i = 6 ∨ i = 14) with rfl | rfl
    · refine wpOp_call 20 #[.pointer (some ⟨mp, 0, none⟩), .int .u64 id] _ (by rfl) (by kernel_rfl) (by kernel_rfl) (HSH.out _ hH) ?_
      rintro e Z ⟨rfl, hbZ⟩
      have hZ : Below w1.heap.size w1 Z := hH.trans (hbZ.mono hH.size)
      refine ⟨_, rfl, hZ, ?_⟩
      (try simp only [List.getElem_toArray, List.getElem_cons_zero, List.getElem_cons_succ, Act.put, List.setIfInBounds_toArray, List.set_cons_zero, List.set_cons_succ])
      refine wpAnyH_take (i := 7) (v := .pointer (some ⟨sb, 0 + sh * 1, none⟩)) rfl (by kernel_rfl) (by kernel_rfl) (by kernel_rfl) (fun _ _ _ h => h) (yieldsIf_indexN Try.underlying52 sizeMN (by rfl) _ _ rfl rfl rfl HLT.out) hZ ?_
      (try simp only [List.getElem_toArray, List.getElem_cons_zero, List.getElem_cons_succ, Act.put, List.setIfInBounds_toArray, List.set_cons_zero, List.set_cons_succ])
      refine wpAnyH_take (i := 8) (v := .map (some b)) rfl (by kernel_rfl) (by kernel_rfl) (by kernel_rfl) (fun _ _ _ h => h) (yieldsIf_loadP (by rfl) _ rfl rfl (fun W q => load_mapN (HCB.out W q))) hZ ?_
      (try simp only [List.getElem_toArray, List.getElem_cons_zero, List.getElem_cons_succ, Act.put, List.setIfInBounds_toArray, List.set_cons_zero, List.set_cons_succ])
      refine wpAnyH_take (i := 10) (v := .tuple #[refV x, .bool is]) rfl (by kernel_rfl) (by kernel_rfl) (by kernel_rfl) (fun _ _ _ h => h) (yieldsIf_lookN (by rfl) _ _ rfl rfl rfl (fun W q => HLK.out W q)) hZ ?_
      (try simp only [List.getElem_toArray, List.getElem_cons_zero, List.getElem_cons_succ, Act.put, List.setIfInBounds_toArray, List.set_cons_zero, List.set_cons_succ])
      refine wpAnyH_take (i := 11) (v := .tuple #[refV x, .bool is]) rfl (by kernel_rfl) (by kernel_rfl) (by kernel_rfl) (fun _ _ _ h => h) (.inl ⟨by rfl, fun _ _ => by kernel_rfl⟩) hZ ?_
      (try simp only [List.getElem_toArray, List.getElem_cons_zero, List.getElem_cons_succ, Act.put, List.setIfInBounds_toArray, List.set_cons_zero, List.set_cons_succ])
      refine wpAnyH_take (i := 12) (v := refV x) rfl (by kernel_rfl) (by kernel_rfl) (by kernel_rfl) (fun _ _ _ h => h) (.inl ⟨by rfl, fun _ _ => by kernel_rfl⟩) hZ ?_
      (try simp only [List.getElem_toArray, List.getElem_cons_zero, List.getElem_cons_succ, Act.put, List.setIfInBounds_toArray, List.set_cons_zero, List.set_cons_succ])
      refine wpAnyH_take (i := 13) (v := .bool is) rfl (by kernel_rfl) (by kernel_rfl) (by kernel_rfl) (fun _ _ _ h => h) (.inl ⟨by rfl, fun _ _ => by kernel_rfl⟩) hZ ?_
      (try simp only [List.getElem_toArray, List.getElem_cons_zero, List.getElem_cons_succ, Act.put, List.setIfInBounds_toArray, List.set_cons_zero, List.set_cons_succ])
      refine wpAnyH_makeN 14 (.pointer (some ⟨Z.heap.size, 0, none⟩)) (by kernel_rfl) (by rfl) (by kernel_rfl) (by kernel_rfl) (w' := Z.alloc (.cells #[.int .i64 0, .int .i64 0] 32)) (hZ.alloc hZ.size _) ?_
      (try simp only [List.getElem_toArray, List.getElem_cons_zero, List.getElem_cons_succ, Act.put, List.setIfInBounds_toArray, List.set_cons_zero, List.set_cons_succ])
      have SR := ref_put Z x
      have hB3 := ref_blk Z x
      have b3 := put_belN Z (.cells #[.int .i64 0, .int .i64 0] 32) (refC x).toList
      obtain ⟨w3, hw3⟩ : ∃ q, (Z.alloc (.cells #[.int .i64 0, .int .i64 0] 32)).setCells Z.heap.size 0 (refC x).toList = q := ⟨_, rfl⟩
      rw [hw3] at SR hB3 b3
      have h2 : Below w1.heap.size w1 w3 := hZ.trans (b3.mono hZ.size)
      have HGE := Lib.hid hZ.size
      clear hbZ hZ b3
      refine wpAnyH_store 15 _ _ _ (by kernel_rfl) (by rfl) (by kernel_rfl) (by rfl) (by rfl) (by rfl) SR h2 ?_
      (try simp only [List.getElem_toArray, List.getElem_cons_zero, List.getElem_cons_succ, Act.put])
      refine wpAnyH_take (i := 16) (v := .bool is) rfl (by kernel_rfl) (by kernel_rfl) (by kernel_rfl) (fun _ _ _ h => h) (.inl ⟨by rfl, fun _ _ => by kernel_rfl⟩) h2 ?_
      (try simp only [List.getElem_toArray, List.getElem_cons_zero, List.getElem_cons_succ, Act.put, List.setIfInBounds_toArray, List.set_cons_zero, List.set_cons_succ])
      refine wpAnyH_done (by kernel_rfl) ?_ _
      have H2 := Lib.hid h2
      have HB3 := Lib.hid hB3
      clear SR hB3 h2 hw3 hH
      go_wp2_with fail
      go_meet
      exact ⟨_, rfl, rfl, HGE, H2, HB3⟩
    · have h1 : Below w1.heap.size w1 (w1.drew.alloc (.cells #[.int .i64 0, .int .i64 0] 32)) := hH.alloc hH.size _
      refine wpOp_value (w' := w1.drew.alloc (.cells #[.int .i64 0, .int .i64 0] 32)) (.pointer (some ⟨w1.drew.heap.size, 0, none⟩)) (by rfl) (by kernel_rfl) (by kernel_rfl) ⟨h1, ?_⟩
      (try simp only [List.getElem_toArray, List.getElem_cons_zero, List.getElem_cons_succ, Act.put, List.setIfInBounds_toArray, List.set_cons_zero, List.set_cons_succ])
      have kA : Blk (w1.drew.alloc (.cells #[.int .i64 0, .int .i64 0] 32)) w1.drew.heap.size 32 ref0 := Blk.new _ _ _
      refine wpAnyH_call 6 20 #[.pointer (some ⟨mp, 0, none⟩), .int .u64 id] _ (by kernel_rfl) (by rfl) (by kernel_rfl) (by kernel_rfl) (HSH.out _ h1) ?_
      rintro e Z ⟨rfl, hbZ⟩
      have hZ : Below w1.heap.size w1 Z := h1.trans (hbZ.mono h1.size)
      have kZ := kA.below hbZ kA.lt
      refine ⟨_, rfl, hZ, ?_⟩
      (try simp only [List.getElem_toArray, List.getElem_cons_zero, List.getElem_cons_succ, Act.put, List.setIfInBounds_toArray, List.set_cons_zero, List.set_cons_succ])
      refine wpAnyH_take (i := 7) (v := .pointer (some ⟨sb, 0 + sh * 1, none⟩)) rfl (by kernel_rfl) (by kernel_rfl) (by kernel_rfl) (fun _ _ _ h => h) (yieldsIf_indexN Try.underlying52 sizeMN (by rfl) _ _ rfl rfl rfl HLT.out) hZ ?_
      (try simp only [List.getElem_toArray, List.getElem_cons_zero, List.getElem_cons_succ, Act.put, List.setIfInBounds_toArray, List.set_cons_zero, List.set_cons_succ])
      refine wpAnyH_take (i := 8) (v := .map (some b)) rfl (by kernel_rfl) (by kernel_rfl) (by kernel_rfl) (fun _ _ _ h => h) (yieldsIf_loadP (by rfl) _ rfl rfl (fun W q => load_mapN (HCB.out W q))) hZ ?_
      (try simp only [List.getElem_toArray, List.getElem_cons_zero, List.getElem_cons_succ, Act.put, List.setIfInBounds_toArray, List.set_cons_zero, List.set_cons_succ])
      refine wpAnyH_take (i := 10) (v := .tuple #[refV x, .bool is]) rfl (by kernel_rfl) (by kernel_rfl) (by kernel_rfl) (fun _ _ _ h => h) (yieldsIf_lookN (by rfl) _ _ rfl rfl rfl (fun W q => HLK.out W q)) hZ ?_
      (try simp only [List.getElem_toArray, List.getElem_cons_zero, List.getElem_cons_succ, Act.put, List.setIfInBounds_toArray, List.set_cons_zero, List.set_cons_succ])
      refine wpAnyH_take (i := 11) (v := .tuple #[refV x, .bool is]) rfl (by kernel_rfl) (by kernel_rfl) (by kernel_rfl) (fun _ _ _ h => h) (.inl ⟨by rfl, fun _ _ => by kernel_rfl⟩) hZ ?_
      (try simp only [List.getElem_toArray, List.getElem_cons_zero, List.getElem_cons_succ, Act.put, List.setIfInBounds_toArray, List.set_cons_zero, List.set_cons_succ])
      refine wpAnyH_take (i := 12) (v := refV x) rfl (by kernel_rfl) (by kernel_rfl) (by kernel_rfl) (fun _ _ _ h => h) (.inl ⟨by rfl, fun _ _ => by kernel_rfl⟩) hZ ?_
      (try simp only [List.getElem_toArray, List.getElem_cons_zero, List.getElem_cons_succ, Act.put, List.setIfInBounds_toArray, List.set_cons_zero, List.set_cons_succ])
      refine wpAnyH_take (i := 13) (v := .bool is) rfl (by kernel_rfl) (by kernel_rfl) (by kernel_rfl) (fun _ _ _ h => h) (.inl ⟨by rfl, fun _ _ => by kernel_rfl⟩) hZ ?_
      (try simp only [List.getElem_toArray, List.getElem_cons_zero, List.getElem_cons_succ, Act.put, List.setIfInBounds_toArray, List.set_cons_zero, List.set_cons_succ])
      have SR : (Instr.storeAt 32 (.pointer (some ⟨w1.drew.heap.size, 0, none⟩)) (refV x)).run Try.prog Z = .ok () _ := row_store kZ (refC x) rfl refTN (by simp [refC, Value.oneCell'])
      have hB3 := kZ.put (refC x).toList rfl
      have t3 : Tch (fun k => k = w1.drew.heap.size) Z (Z.setCells w1.drew.heap.size 0 (refC x).toList) := Tch.setCells (S := fun k => k = w1.drew.heap.size) rfl _ _ Z (Tch.refl _ Z)
      obtain ⟨w3, hw3⟩ : ∃ q, Z.setCells w1.drew.heap.size 0 (refC x).toList = q := ⟨_, rfl⟩
      rw [hw3] at SR hB3 t3
      have h2 : Below w1.heap.size w1 w3 := hZ.trans (t3.below hZ.size (fun k hk => by rw [hk]; exact hH.size))
      have HGE := Lib.hid hH.size
      clear hbZ hZ t3 kA kZ h1
      refine wpAnyH_store 15 _ _ _ (by kernel_rfl) (by rfl) (by kernel_rfl) (by rfl) (by rfl) (by rfl) SR h2 ?_
      (try simp only [List.getElem_toArray, List.getElem_cons_zero, List.getElem_cons_succ, Act.put])
      refine wpAnyH_take (i := 16) (v := .bool is) rfl (by kernel_rfl) (by kernel_rfl) (by kernel_rfl) (fun _ _ _ h => h) (.inl ⟨by rfl, fun _ _ => by kernel_rfl⟩) h2 ?_
      (try simp only [List.getElem_toArray, List.getElem_cons_zero, List.getElem_cons_succ, Act.put, List.setIfInBounds_toArray, List.set_cons_zero, List.set_cons_succ])
      refine wpAnyH_done (by kernel_rfl) ?_ _
      have H2 := Lib.hid h2
      have HB3 := Lib.hid hB3
      clear SR hB3 h2 hw3 hH
      go_wp2_with fail
      go_meet
      exact ⟨_, rfl, rfl, HGE, H2, HB3⟩
  case rest =>
  obtain ⟨g, rfl, rfl, hg, hb, hk⟩ := hcut
  obtain ⟨w3, hw3⟩ : ∃ q, wc = q := ⟨_, rfl⟩
  rw [hw3] at hb hk ⊢
  have LX := ref_load hk.out
  have k3 := HK1.out.below hb.out HK1.out.lt
  have SR : (Instr.storeAt 32 (.pointer (some ⟨w.heap.size, 0, none⟩)) (refV x)).run Try.prog w3 = .ok () _ := row_store k3 (refC x) rfl refTN (by simp [refC, Value.oneCell'])
  obtain ⟨V, hV⟩ : ∃ V, w3.setCells w.heap.size 0 (refC x).toList = V := ⟨_, rfl⟩
  rw [hV] at SR
  have HV : Hid (Blk V w.heap.size 32 (refC x)) := by show Blk _ _ _ _; rw [← hV]; exact k3.put _ rfl
  have HBV : Hid (Below w.heap.size w V) := by
    show Below _ _ _
    rw [← hV]
    have h2 : Below w.heap.size w w3 := HB1.out.trans (hb.out.mono HB1.out.size)
    exact h2.trans ((Tch.setCells (S := fun k => k = w.heap.size) rfl _ _ w3 (Tch.refl _ w3)).below h2.size (fun k hk => Nat.le_of_eq hk.symm))
  clear hV k3 hw3
  go_wp2_with (first | refine wpList_loadE LX _ rfl rfl rfl ?_ | refine wpList_storeE SR _ _ rfl rfl rfl rfl ?_)
  refine bodyPost_ret (v := .tuple #[refV x, .bool is]) ?_ rfl ⟨rfl, HBV.out⟩
  exact results_row11N (P := Try.prog) Try.results19 _ rfl HV.out Try.underlying32 rfl refTN
/-- What Put leaves, and Drop. -/
def putL (E : List Nm) (x : Nm) : List Nm := if (E.any fun y => y.id == x.id) = true then E else E ++ [x]
def putV (E : List Nm) (id v : Int) : Int := if (E.any fun y => y.id == id) = true then v else v + 1
def dropL (E : List Nm) (id : Int) : List Nm := E.filter fun y => y.id != id
def dropV (E : List Nm) (id v : Int) : Int := if (E.any fun y => y.id == id) = true then v + 1 else v
theorem dropL_no {E : List Nm} {id : Int} (h : (E.any fun y => y.id == id) = false) : dropL E id = E := List.filter_eq_self.2 fun y hy => by
  have : ¬ y.id = id := fun e => by have := any_id.2 ⟨y, hy, e⟩; rw [h] at this; cases this
  simpa using this
theorem load_i64N {w : World} {b o : Nat} {v : Int} (h : w.cell? ⟨b, o, none⟩ = some (.int .i64 v)) : (Instr.loadAt 3 (.pointer (some ⟨b, o, none⟩))).run Try.prog w = .ok (.int .i64 v) w := by
  simp [go_sem, h]
theorem id_ver {w : World} {mp sb k N : Nat} {bs : List Nat} {E : List Nm} {ver : Int} (S : IdS w mp sb k N bs E ver) :
    Calls Try.prog 10 #[.pointer (some ⟨mp, 0, none⟩)] w (fun e w' => e = .returned (.int .i64 ver) ∧ w = w') := by
  have c1 : w.cell? ⟨mp, 1, none⟩ = some (.int .i64 ver) := S.m.cell 1
  clear S
  go_enter Try.func10, Try.ntmps10
  go_wp2_with fail
  go_ret
  exact ⟨rfl, rfl⟩
set_option maxRecDepth 100000 in
set_option maxHeartbeats 4000000 in
theorem id_put {w : World} {mp sb k N : Nat} {bs : List Nat} {E : List Nm} {ver : Int} (S : IdS w mp sb k N bs E ver) (x : Nm) (hid : Word x.id) (hwf : (Lit.int .u64 x.id).wf = true) (hN : N ≤ 1048576) (hv : 0 ≤ ver ∧ ver ≤ 1048576) :
    Calls Try.prog 8 #[.pointer (some ⟨mp, 0, none⟩), .int .u64 x.id, refV x] w (fun e w' => e = .returned (.bool (!(E.any fun y => y.id == x.id))) ∧ Tch (idF mp bs) w w' ∧ IdS w' mp sb k (N + 1) bs (putL E x) (putV E x.id ver)) := by
  obtain ⟨w1, hw1⟩ : ∃ y, w.alloc (.cells #[.int .i64 x.slot, .int .i64 x.gen] 32) = y := ⟨_, rfl⟩
  have b1 : Below w.heap.size w w1 := by rw [← hw1]; exact bel_boxN _ _
  have k1 : Blk w1 w.heap.size 32 (refC x) := by rw [← hw1]; exact Blk.new _ _ _
  have S1 := S.below b1
  have hbx : ¬ idF mp bs w.heap.size := fun q => by
    rcases q with q | q
    · exact absurd S.m.lt (by omega)
    · obtain ⟨i, hi, e⟩ := List.getElem_of_mem q
      have := (S.r i w.heap.size (by rw [List.getElem?_eq_getElem hi, e])).lt
      omega
  obtain ⟨gx, hgx⟩ : ∃ gx, getN E x.id = gx := ⟨_, rfl⟩
  have hge := id_get S1 x.id hid hwf
  rw [hgx] at hge
  unfold refV at hge ⊢
  cases hin : E.any fun y => y.id == x.id
  · rw [hin] at hge
    have eL : putL E x = E ++ [x] := by unfold putL; rw [hin]; rfl
    have eV : putV E x.id ver = ver + 1 := by unfold putV; rw [hin]; rfl
    rw [eL, eV]
    obtain ⟨sh, hsh⟩ : ∃ sh, shI k x.id = sh := ⟨_, rfl⟩
    have hlt : sh < k := by rw [← hsh]; exact shI_lt S.k0.1 x.id
    obtain ⟨b, hb, hcb, hrf⟩ := S1.at_ hlt
    have HS1 := Lib.hid S1
    have HGE := Lib.hid hge
    have HB1 := Lib.hid b1
    have HK1 := Lib.hid k1
    have HBX := Lib.hid hbx
    have HSH := Lib.hid hsh
    have HIN := Lib.hid hin
    have HLT := Lib.hid hlt
    have HBI := Lib.hid hb
    have HWF := Lib.hid hwf
    have HNN := Lib.hid hN
    have HID := Lib.hid hid
    clear S S1 hge b1 k1 hbx hsh hin hlt hb hcb hrf hid hwf hN eL eV hgx
    go_enter Try.func8, Try.ntmps8
    go_upto_region 1 with fail
    (try rw [hw1])
    clear hw1
    go_upto_region 4 with (first
      | (go_at_call 19; (with_reducible refine HGE.out.mono ?_); rintro e w2 ⟨rfl, hb2⟩; have SG := ref_put w2 gx; have bG := put_belN w2 (.cells #[.int .i64 0, .int .i64 0] 32) (refC gx).toList; obtain ⟨w4, hw4⟩ : ∃ q, (w2.alloc (.cells #[.int .i64 0, .int .i64 0] 32)).setCells w2.heap.size 0 (refC gx).toList = q := ⟨_, rfl⟩; unfold refV at SG; rw [hw4] at SG bG; have HB4 : Hid (Below w1.heap.size w1 w4) := hb2.trans (bG.mono hb2.size); clear hb2 bG hw4)
      | refine wpList_storeE SG _ _ rfl rfl rfl rfl ?_)
    have S4 := HS1.out.below HB4.out
    have HS4 := Lib.hid S4
    have HK4 : Hid (Blk w4 w.heap.size 32 (refC x)) := HK1.out.below HB4.out HK1.out.lt
    have hSH : ∀ W, Below w4.heap.size w4 W → Calls Try.prog 20 #[.pointer (some ⟨mp, 0, none⟩), .int .u64 x.id] W (fun e w' => e = .returned (.int .i64 ((sh : Nat) : Int)) ∧ Below W.heap.size W w') := fun W hW => by
      have := id_shard (S4.below hW) x.id HID.out
      rw [HSH.out] at this
      exact this
    have HSHC := Lib.hid hSH
    have HBB : Hid (b ≠ mp ∧ b ≠ sb ∧ b ≠ w.heap.size) := ⟨fun e => S4.ne.1 (e ▸ List.mem_of_getElem? HBI.out), fun e => S4.ne.2.1 (e ▸ List.mem_of_getElem? HBI.out), fun e => HBX.out (.inr (e ▸ List.mem_of_getElem? HBI.out))⟩
    have HM4 : Hid (∀ W, Tch (fun x => x = b) w4 W → W.cell? ⟨mp, 0, none⟩ = some (.slice (some ⟨sb, 0, none⟩) k k)) := fun W hW => (S4.m.tch hW (fun q => HBB.out.1 q.symm)).cell 0
    have HCB : Hid (∀ W, Tch (fun x => x = b) w4 W → W.cell? ⟨sb, 0 + sh * 1, none⟩ = some (.map (some b))) := fun W hW => by
      rw [Nat.zero_add, Nat.mul_one]
      exact (hW.cell (p := ⟨sb, sh, none⟩) S4.slt (fun q => HBB.out.2.1 q.symm)).trans (S4.s sh b HBI.out)
    have HRB : Hid (∀ W, Tch (fun x => x = b) w4 W → (Instr.loadAt 32 (.pointer (some ⟨w.heap.size, 0, none⟩))).run Try.prog W = .ok (refV x) W) := fun W hW => ref_load (HK4.out.tch hW (fun q => HBB.out.2.2 q.symm))
    clear hSH S4
    refine wp_region_held_drew (S := fun w' => Tch (fun x => x = b) w4 w') (by kernel_rfl) ((Tch.refl _ w4).drewN 1) (fun hH => ?_)
    refine wpAnyH_take (i := 0) (v := .pointer (some ⟨mp, 0, none⟩)) rfl (by kernel_rfl) (by kernel_rfl) (by kernel_rfl) (fun _ _ _ h => h) (.inl ⟨by rfl, fun _ _ => by kernel_rfl⟩) hH ?_
    (try simp only [List.getElem_toArray, List.getElem_cons_zero, Act.put, List.setIfInBounds_toArray, List.set_cons_zero, List.set_cons_succ])
    refine wpAnyH_take (i := 1) (v := .pointer (some ⟨mp, 0, none⟩)) rfl (by kernel_rfl) (by kernel_rfl) (by kernel_rfl) (fun _ _ _ h => h) (.inl ⟨by rfl, fun _ _ => by kernel_rfl⟩) hH ?_
    (try simp only [List.getElem_toArray, List.getElem_cons_zero, List.getElem_cons_succ, Act.put, List.setIfInBounds_toArray, List.set_cons_zero, List.set_cons_succ])
    refine wpAnyH_take (i := 2) (v := .pointer (some ⟨mp, 0, none⟩)) rfl (by kernel_rfl) (by kernel_rfl) (by kernel_rfl) (fun _ _ _ h => h) (.inl ⟨by rfl, fun _ _ => by kernel_rfl⟩) hH ?_
    (try simp only [List.getElem_toArray, List.getElem_cons_zero, List.getElem_cons_succ, Act.put, List.setIfInBounds_toArray, List.set_cons_zero, List.set_cons_succ])
    refine wpAnyH_take (i := 3) (v := .slice (some ⟨sb, 0, none⟩) k k) rfl (by kernel_rfl) (by kernel_rfl) (by kernel_rfl) (fun _ _ _ h => h) (yieldsIf_loadP (by rfl) _ rfl rfl (fun W q => load_mapsN (HM4.out W q))) hH ?_
    (try simp only [List.getElem_toArray, List.getElem_cons_zero, List.getElem_cons_succ, Act.put, List.setIfInBounds_toArray, List.set_cons_zero, List.set_cons_succ])
    refine wpAnyH_take (i := 4) (v := .pointer (some ⟨mp, 0, none⟩)) rfl (by kernel_rfl) (by kernel_rfl) (by kernel_rfl) (fun _ _ _ h => h) (.inl ⟨by rfl, fun _ _ => by kernel_rfl⟩) hH ?_
    (try simp only [List.getElem_toArray, List.getElem_cons_zero, List.getElem_cons_succ, Act.put, List.setIfInBounds_toArray, List.set_cons_zero, List.set_cons_succ])
    refine wpAnyH_take (i := 5) (v := .int .u64 x.id) rfl (by kernel_rfl) (by kernel_rfl) (by kernel_rfl) (fun _ _ _ h => h) (.inl ⟨by rfl, fun _ _ => by kernel_rfl⟩) hH ?_
    (try simp only [List.getElem_toArray, List.getElem_cons_zero, List.getElem_cons_succ, Act.put, List.setIfInBounds_toArray, List.set_cons_zero, List.set_cons_succ])
    refine wpAnyH_take (i := 9) (v := .int .u64 x.id) rfl (by kernel_rfl) (by kernel_rfl) (by kernel_rfl) (fun _ _ _ h => h) (.inl ⟨by rfl, fun _ _ => by kernel_rfl⟩) hH ?_
    (try simp only [List.getElem_toArray, List.getElem_cons_zero, List.getElem_cons_succ, Act.put, List.setIfInBounds_toArray, List.set_cons_zero, List.set_cons_succ])
    refine wpAnyH_take (i := 10) (v := refV x) rfl (by kernel_rfl) (by kernel_rfl) (by kernel_rfl) (fun _ _ _ h => h) (yieldsIf_loadP (by rfl) _ rfl rfl (fun W q => HRB.out W q)) hH ?_
    (try simp only [List.getElem_toArray, List.getElem_cons_zero, List.getElem_cons_succ, Act.put, List.setIfInBounds_toArray, List.set_cons_zero, List.set_cons_succ])
    refine wpAnyH_call 6 20 #[.pointer (some ⟨mp, 0, none⟩), .int .u64 x.id] _ (by kernel_rfl) (by rfl) (by kernel_rfl) (by kernel_rfl) (HSHC.out w4.drew (below_drewN (Below.refl _ w4) 1)) ?_
    rintro e Z ⟨rfl, hbZ⟩
    have hZb : Below w4.heap.size w4 Z := (below_drewN (Below.refl _ w4) 1).trans hbZ
    have hZ : Tch (fun x => x = b) w4 Z := Tch.of_below hZb
    refine ⟨_, rfl, hZ, ?_⟩
    (try simp only [List.getElem_toArray, List.getElem_cons_zero, List.getElem_cons_succ, Act.put, List.setIfInBounds_toArray, List.set_cons_zero, List.set_cons_succ])
    refine wpAnyH_take (i := 7) (v := .pointer (some ⟨sb, 0 + sh * 1, none⟩)) rfl (by kernel_rfl) (by kernel_rfl) (by kernel_rfl) (fun _ _ _ h => h) (yieldsIf_indexN Try.underlying52 sizeMN (by rfl) _ _ rfl rfl rfl HLT.out) hZ ?_
    (try simp only [List.getElem_toArray, List.getElem_cons_zero, List.getElem_cons_succ, Act.put, List.setIfInBounds_toArray, List.set_cons_zero, List.set_cons_succ])
    refine wpAnyH_take (i := 8) (v := .map (some b)) rfl (by kernel_rfl) (by kernel_rfl) (by kernel_rfl) (fun _ _ _ h => h) (yieldsIf_loadP (by rfl) _ rfl rfl (fun W q => load_mapN (HCB.out W q))) hZ ?_
    (try simp only [List.getElem_toArray, List.getElem_cons_zero, List.getElem_cons_succ, Act.put, List.setIfInBounds_toArray, List.set_cons_zero, List.set_cons_succ])
    obtain ⟨D, h1, h2⟩ := (HS4.out.below hZb).r sh b HBI.out
    obtain ⟨Z2, hrun, h3, hg2⟩ := World.ownsMap.update h1 lawUN Try.underlying55 (show N < maxLen by have := HNN.out; unfold maxLen; omega) (keyOf_int_mk (P := Try.prog) Try.underlying28 HWF.out) (refElem_mk x)
    have hTZ : Tch (fun x => x = b) w4 Z2 := hZ.trans (S' := fun x => x = b) ⟨hg2.os, hg2.tape, hg2.output, hg2.size, fun k q1 q2 => hg2.block k q1 (by intro e; injection e with e; exact q2 e)⟩ (fun k q => .inl q)
    have HTZ1 : Hid (Tch (fun x => x = b) w1 Z2) := (Tch.of_below (S := fun x => x = b) HB4.out).trans hTZ (fun k q => .inl q)
    have hrf2 : RfAt Z2 b (N + 1) (shL (shI k) E sh ++ [x]) := ⟨_, h3, h2.put x (fun y hy e => by have := any_id.2 ⟨y, (shL_mem.1 hy).1, e⟩; rw [HIN.out] at this; cases this)⟩
    clear h1 h2 h3 hg2 hZ hZb hbZ
    refine wpAnyH_updN 11 _ _ _ _ (by kernel_rfl) (by rfl) (by kernel_rfl) (by rfl) (by rfl) (by rfl) (by rfl) hrun hTZ ?_
    (try simp only [List.getElem_toArray, List.getElem_cons_zero, List.getElem_cons_succ, Act.put])
    refine wpAnyH_done (by kernel_rfl) ?_ _
    clear hrun
    have HT2 : Hid (Tch (fun x => x = b) w Z2) := (Tch.of_below (S := fun x => x = b) (HB1.out.trans (HB4.out.mono HB1.out.size))).trans (S' := fun x => x = b) hTZ (fun k q => .inl q)
    have hm2 : Blk Z2 mp 54 (idC sb k ver) := HS4.out.m.tch hTZ (fun q => HBB.out.1 q.symm)
    have c1 : Z2.cell? ⟨mp, 1, none⟩ = some (.int .i64 ver) := hm2.cell 1
    have f1 : Z2.frozen? ⟨mp, 1, none⟩ = false := hm2.frozen 1
    have HM2 := Lib.hid hm2
    have HRF := Lib.hid hrf2
    clear hm2 hTZ hrf2 hH
    go_wp2_with fail
    go_ret
    have tV : Tch (fun x => x = mp) Z2 (Z2.setCell ⟨mp, 1, none⟩ (.int .i64 (ver + 1))) := Tch.setCell (S := fun x => x = mp) (Tch.refl _ Z2) rfl 1 _
    have hT : Tch (idF mp bs) w (Z2.setCell ⟨mp, 1, none⟩ (.int .i64 (ver + 1))) := (HT2.out.mono (S' := idF mp bs) (fun k _ hk => .inr (hk ▸ List.mem_of_getElem? HBI.out))).trans tV (fun k q => .inl (.inl q))
    have hTw1 : Tch (fun x => x = b) w1 Z2 := HTZ1.out
    refine ⟨rfl, hT, ?_⟩
    have hTf : Tch (idF mp bs) w1 (Z2.setCell ⟨mp, 1, none⟩ (.int .i64 (ver + 1))) := (hTw1.mono (S' := idF mp bs) (fun k _ hk => .inr (hk ▸ List.mem_of_getElem? HBI.out))).trans tV (fun k q => .inl (.inl q))
    refine HS1.out.write (id := x.id) (E' := E ++ [x]) hTf (by rw [HSH.out]; exact HBI.out) hTw1 tV (HM2.out.set_ 1 _) ?_ (Nat.le_succ N) (fun i hi => by rw [shL_snoc, if_neg (fun q => hi q.symm)]) ?_
    · rw [shL_snoc, if_pos rfl, HSH.out]
      exact HRF.out
    · rw [List.pairwise_append]
      exact ⟨HS1.out.e, by simp, fun a ha c hc => by
        rw [List.mem_singleton] at hc
        subst hc
        exact fun e => by have := any_id.2 ⟨a, ha, e⟩; rw [HIN.out] at this; cases this⟩
  · rw [hin] at hge
    have eL : putL E x = E := by unfold putL; rw [hin]; rfl
    have eV : putV E x.id ver = ver := by unfold putV; rw [hin]; rfl
    rw [eL, eV]
    have HS1 := Lib.hid S1
    have HGE := Lib.hid hge
    have HB1 := Lib.hid b1
    clear S S1 hge b1 k1 hbx hin hid hwf hN eL eV hgx
    go_enter Try.func8, Try.ntmps8
    go_upto_region 1 with fail
    (try rw [hw1])
    clear hw1
    go_wp2_with (first
      | (go_at_call 19; (with_reducible refine HGE.out.mono ?_); rintro e w2 ⟨rfl, hb2⟩; have SG := ref_put w2 gx; have bG := put_belN w2 (.cells #[.int .i64 0, .int .i64 0] 32) (refC gx).toList; obtain ⟨w4, hw4⟩ : ∃ q, (w2.alloc (.cells #[.int .i64 0, .int .i64 0] 32)).setCells w2.heap.size 0 (refC gx).toList = q := ⟨_, rfl⟩; unfold refV at SG; rw [hw4] at SG bG; have HB4 : Hid (Below w1.heap.size w1 w4) := hb2.trans (bG.mono hb2.size); clear hb2 bG hw4)
      | refine wpList_storeE SG _ _ rfl rfl rfl rfl ?_)
    go_ret
    exact ⟨rfl, Tch.of_below (HB1.out.trans (HB4.out.mono HB1.out.size)), (HS1.out.below HB4.out).more (Nat.le_succ N)⟩
set_option maxRecDepth 100000 in
set_option maxHeartbeats 4000000 in
theorem id_drop {w : World} {mp sb k N : Nat} {bs : List Nat} {E : List Nm} {ver : Int} (S : IdS w mp sb k N bs E ver) (id : Int) (hid : Word id) (hwf : (Lit.int .u64 id).wf = true) (hv : 0 ≤ ver ∧ ver ≤ 1048576) :
    Calls Try.prog 7 #[.pointer (some ⟨mp, 0, none⟩), .int .u64 id] w (fun e w' => e = .returned (.tuple #[refV (getN E id), .bool (E.any fun y => y.id == id)]) ∧ Tch (idF mp bs) w w' ∧ IdS w' mp sb k N bs (dropL E id) (dropV E id ver)) := by
  obtain ⟨w1, hw1⟩ : ∃ x, w.alloc (.cells #[.int .i64 0, .int .i64 0] 32) = x := ⟨_, rfl⟩
  have b1 : Below w.heap.size w w1 := by rw [← hw1]; exact bel_boxN _ _
  have k1 : Blk w1 w.heap.size 32 ref0 := by rw [← hw1]; exact Blk.new _ _ _
  have S1 := S.below b1
  have hbx : ¬ idF mp bs w.heap.size := fun q => by
    rcases q with q | q
    · exact absurd S.m.lt (by omega)
    · obtain ⟨i, hi, e⟩ := List.getElem_of_mem q
      have := (S.r i w.heap.size (by rw [List.getElem?_eq_getElem hi, e])).lt
      omega
  have HS0 := Lib.hid S
  obtain ⟨gx, hgx⟩ : ∃ gx, getN E id = gx := ⟨_, rfl⟩
  have hge := id_get S1 id hid hwf
  rw [hgx] at hge ⊢
  unfold refV at hge
  cases hin : E.any fun y => y.id == id
  · rw [hin] at hge
    have eV : dropV E id ver = ver := by unfold dropV; rw [hin]; rfl
    rw [dropL_no hin, eV]
    have HS1 := Lib.hid S1
    have HGE := Lib.hid hge
    have HB1 := Lib.hid b1
    have HK1 := Lib.hid k1
    clear S S1 hge b1 k1 hbx hin hid hwf eV hgx
    go_enter Try.func7, Try.ntmps7
    go_upto_region 1 with fail
    (try rw [hw1])
    clear hw1
    go_upto_region 5 with (first
      | (go_at_call 19; (with_reducible refine HGE.out.mono ?_); rintro e w2 ⟨rfl, hb2⟩; have SG := ref_put w2 gx; have bG := put_belN w2 (.cells #[.int .i64 0, .int .i64 0] 32) (refC gx).toList; have kG := ref_blk w2 gx; obtain ⟨w4, hw4⟩ : ∃ q, (w2.alloc (.cells #[.int .i64 0, .int .i64 0] 32)).setCells w2.heap.size 0 (refC gx).toList = q := ⟨_, rfl⟩; unfold refV at SG; rw [hw4] at SG bG kG; have HB4 : Hid (Below w1.heap.size w1 w4) := hb2.trans (bG.mono hb2.size); have HKG := Lib.hid kG; clear hb2 bG hw4 kG)
      | refine wpList_storeE SG _ _ rfl rfl rfl rfl ?_)
    have LX := ref_load HKG.out
    have k4 := HK1.out.below HB4.out HK1.out.lt
    have SR : (Instr.storeAt 32 (.pointer (some ⟨w.heap.size, 0, none⟩)) (refV gx)).run Try.prog w4 = .ok () _ := row_store k4 (refC gx) rfl refTN (by simp [refC, Value.oneCell'])
    obtain ⟨V, hV⟩ : ∃ V, w4.setCells w.heap.size 0 (refC gx).toList = V := ⟨_, rfl⟩
    rw [hV] at SR
    have HV : Hid (Blk V w.heap.size 32 (refC gx)) := by show Blk _ _ _ _; rw [← hV]; exact k4.put _ rfl
    have HBV : Hid (Below w.heap.size w V) := by
      show Below _ _ _
      rw [← hV]
      have h2 : Below w.heap.size w w4 := HB1.out.trans (HB4.out.mono HB1.out.size)
      exact h2.trans ((Tch.setCells (S := fun k => k = w.heap.size) rfl _ _ w4 (Tch.refl _ w4)).below h2.size (fun k hk => Nat.le_of_eq hk.symm))
    have HSV : Hid (IdS V mp sb k N bs E ver) := HS0.out.below HBV.out
    clear hV k4
    go_wp2_with (first | refine wpList_loadE LX _ rfl rfl rfl ?_ | refine wpList_storeE SR _ _ rfl rfl rfl rfl ?_)
    refine bodyPost_ret (v := .tuple #[refV gx, .bool false]) ?_ rfl ⟨rfl, Tch.of_below HBV.out, HSV.out⟩
    exact results_row11N (P := Try.prog) Try.results7 _ rfl HV.out Try.underlying32 rfl refTN
  · rw [hin] at hge
    have eV : dropV E id ver = ver + 1 := by unfold dropV; rw [hin]; rfl
    rw [eV]
    obtain ⟨sh, hsh⟩ : ∃ sh, shI k id = sh := ⟨_, rfl⟩
    have hlt : sh < k := by rw [← hsh]; exact shI_lt S.k0.1 id
    obtain ⟨b, hb, hcb, hrf⟩ := S1.at_ hlt
    have HS1 := Lib.hid S1
    have HGE := Lib.hid hge
    have HB1 := Lib.hid b1
    have HK1 := Lib.hid k1
    have HBX := Lib.hid hbx
    have HSH := Lib.hid hsh
    have HLT := Lib.hid hlt
    have HBI := Lib.hid hb
    have HWF := Lib.hid hwf
    have HID := Lib.hid hid
    clear S S1 hge b1 k1 hbx hsh hin hlt hb hcb hrf hid hwf eV hgx
    go_enter Try.func7, Try.ntmps7
    go_upto_region 1 with fail
    (try rw [hw1])
    clear hw1
    go_upto_region 3 with (first
      | (go_at_call 19; (with_reducible refine HGE.out.mono ?_); rintro e w2 ⟨rfl, hb2⟩; have SG := ref_put w2 gx; have bG := put_belN w2 (.cells #[.int .i64 0, .int .i64 0] 32) (refC gx).toList; have kG := ref_blk w2 gx; obtain ⟨w4, hw4⟩ : ∃ q, (w2.alloc (.cells #[.int .i64 0, .int .i64 0] 32)).setCells w2.heap.size 0 (refC gx).toList = q := ⟨_, rfl⟩; unfold refV at SG; rw [hw4] at SG bG kG; have HB4 : Hid (Below w1.heap.size w1 w4) := hb2.trans (bG.mono hb2.size); have HKG := Lib.hid kG; have HGZ : Hid (w1.heap.size ≤ w2.heap.size) := hb2.size; clear hb2 bG hw4 kG)
      | refine wpList_storeE SG _ _ rfl rfl rfl rfl ?_)
    have S4 := HS1.out.below HB4.out
    have HS4 := Lib.hid S4
    have hSH : ∀ W, Below w4.heap.size w4 W → Calls Try.prog 20 #[.pointer (some ⟨mp, 0, none⟩), .int .u64 id] W (fun e w' => e = .returned (.int .i64 ((sh : Nat) : Int)) ∧ Below W.heap.size W w') := fun W hW => by
      have := id_shard (S4.below hW) id HID.out
      rw [HSH.out] at this
      exact this
    have HSHC := Lib.hid hSH
    have hb1 : b < w1.heap.size := (HS1.out.r sh b HBI.out).lt
    have HBB : Hid (b ≠ mp ∧ b ≠ sb ∧ b ≠ w.heap.size ∧ b ≠ w2.heap.size) := ⟨fun e => S4.ne.1 (e ▸ List.mem_of_getElem? HBI.out), fun e => S4.ne.2.1 (e ▸ List.mem_of_getElem? HBI.out), fun e => HBX.out (.inr (e ▸ List.mem_of_getElem? HBI.out)), by have := HGZ.out; omega⟩
    have HM4 : Hid (∀ W, Tch (fun x => x = b) w4 W → W.cell? ⟨mp, 0, none⟩ = some (.slice (some ⟨sb, 0, none⟩) k k)) := fun W hW => (S4.m.tch hW (fun q => HBB.out.1 q.symm)).cell 0
    have HCB : Hid (∀ W, Tch (fun x => x = b) w4 W → W.cell? ⟨sb, 0 + sh * 1, none⟩ = some (.map (some b))) := fun W hW => by
      rw [Nat.zero_add, Nat.mul_one]
      exact (hW.cell (p := ⟨sb, sh, none⟩) S4.slt (fun q => HBB.out.2.1 q.symm)).trans (S4.s sh b HBI.out)
    clear hSH S4 hb1
    refine wp_region_held_drew (S := fun w' => Tch (fun x => x = b) w4 w') (by kernel_rfl) ((Tch.refl _ w4).drewN 1) (fun hH => ?_)
    refine wpAnyH_take (i := 0) (v := .pointer (some ⟨mp, 0, none⟩)) rfl (by kernel_rfl) (by kernel_rfl) (by kernel_rfl) (fun _ _ _ h => h) (.inl ⟨by rfl, fun _ _ => by kernel_rfl⟩) hH ?_
    (try simp only [List.getElem_toArray, List.getElem_cons_zero, Act.put, List.setIfInBounds_toArray, List.set_cons_zero, List.set_cons_succ])
    refine wpAnyH_take (i := 1) (v := .pointer (some ⟨mp, 0, none⟩)) rfl (by kernel_rfl) (by kernel_rfl) (by kernel_rfl) (fun _ _ _ h => h) (.inl ⟨by rfl, fun _ _ => by kernel_rfl⟩) hH ?_
    (try simp only [List.getElem_toArray, List.getElem_cons_zero, List.getElem_cons_succ, Act.put, List.setIfInBounds_toArray, List.set_cons_zero, List.set_cons_succ])
    refine wpAnyH_take (i := 2) (v := .pointer (some ⟨mp, 0, none⟩)) rfl (by kernel_rfl) (by kernel_rfl) (by kernel_rfl) (fun _ _ _ h => h) (.inl ⟨by rfl, fun _ _ => by kernel_rfl⟩) hH ?_
    (try simp only [List.getElem_toArray, List.getElem_cons_zero, List.getElem_cons_succ, Act.put, List.setIfInBounds_toArray, List.set_cons_zero, List.set_cons_succ])
    refine wpAnyH_take (i := 3) (v := .slice (some ⟨sb, 0, none⟩) k k) rfl (by kernel_rfl) (by kernel_rfl) (by kernel_rfl) (fun _ _ _ h => h) (yieldsIf_loadP (by rfl) _ rfl rfl (fun W q => load_mapsN (HM4.out W q))) hH ?_
    (try simp only [List.getElem_toArray, List.getElem_cons_zero, List.getElem_cons_succ, Act.put, List.setIfInBounds_toArray, List.set_cons_zero, List.set_cons_succ])
    refine wpAnyH_take (i := 4) (v := .pointer (some ⟨mp, 0, none⟩)) rfl (by kernel_rfl) (by kernel_rfl) (by kernel_rfl) (fun _ _ _ h => h) (.inl ⟨by rfl, fun _ _ => by kernel_rfl⟩) hH ?_
    (try simp only [List.getElem_toArray, List.getElem_cons_zero, List.getElem_cons_succ, Act.put, List.setIfInBounds_toArray, List.set_cons_zero, List.set_cons_succ])
    refine wpAnyH_take (i := 5) (v := .int .u64 id) rfl (by kernel_rfl) (by kernel_rfl) (by kernel_rfl) (fun _ _ _ h => h) (.inl ⟨by rfl, fun _ _ => by kernel_rfl⟩) hH ?_
    (try simp only [List.getElem_toArray, List.getElem_cons_zero, List.getElem_cons_succ, Act.put, List.setIfInBounds_toArray, List.set_cons_zero, List.set_cons_succ])
    refine wpAnyH_take (i := 9) (v := .int .u64 id) rfl (by kernel_rfl) (by kernel_rfl) (by kernel_rfl) (fun _ _ _ h => h) (.inl ⟨by rfl, fun _ _ => by kernel_rfl⟩) hH ?_
    (try simp only [List.getElem_toArray, List.getElem_cons_zero, List.getElem_cons_succ, Act.put, List.setIfInBounds_toArray, List.set_cons_zero, List.set_cons_succ])
    refine wpAnyH_call 6 20 #[.pointer (some ⟨mp, 0, none⟩), .int .u64 id] _ (by kernel_rfl) (by rfl) (by kernel_rfl) (by kernel_rfl) (HSHC.out w4.drew (below_drewN (Below.refl _ w4) 1)) ?_
    rintro e Z ⟨rfl, hbZ⟩
    have hZb : Below w4.heap.size w4 Z := (below_drewN (Below.refl _ w4) 1).trans hbZ
    have hZ : Tch (fun x => x = b) w4 Z := Tch.of_below hZb
    refine ⟨_, rfl, hZ, ?_⟩
    (try simp only [List.getElem_toArray, List.getElem_cons_zero, List.getElem_cons_succ, Act.put, List.setIfInBounds_toArray, List.set_cons_zero, List.set_cons_succ])
    refine wpAnyH_take (i := 7) (v := .pointer (some ⟨sb, 0 + sh * 1, none⟩)) rfl (by kernel_rfl) (by kernel_rfl) (by kernel_rfl) (fun _ _ _ h => h) (yieldsIf_indexN Try.underlying52 sizeMN (by rfl) _ _ rfl rfl rfl HLT.out) hZ ?_
    (try simp only [List.getElem_toArray, List.getElem_cons_zero, List.getElem_cons_succ, Act.put, List.setIfInBounds_toArray, List.set_cons_zero, List.set_cons_succ])
    refine wpAnyH_take (i := 8) (v := .map (some b)) rfl (by kernel_rfl) (by kernel_rfl) (by kernel_rfl) (fun _ _ _ h => h) (yieldsIf_loadP (by rfl) _ rfl rfl (fun W q => load_mapN (HCB.out W q))) hZ ?_
    (try simp only [List.getElem_toArray, List.getElem_cons_zero, List.getElem_cons_succ, Act.put, List.setIfInBounds_toArray, List.set_cons_zero, List.set_cons_succ])
    obtain ⟨D, h1, h2⟩ := (HS4.out.below hZb).r sh b HBI.out
    obtain ⟨Z2, hrun, h3, ht2⟩ := World.ownsMap.drop h1 lawUN Try.underlying55 (keyOf_int_mk (P := Try.prog) Try.underlying28 HWF.out) 0
    have hg2 := ht2.grown
    have hTZ : Tch (fun x => x = b) w4 Z2 := hZ.trans (S' := fun x => x = b) ⟨hg2.os, hg2.tape, hg2.output, hg2.size, fun k q1 q2 => hg2.block k q1 (by intro e; injection e with e; exact q2 e)⟩ (fun k q => .inl q)
    have HTZ1 : Hid (Tch (fun x => x = b) w1 Z2) := (Tch.of_below (S := fun x => x = b) HB4.out).trans hTZ (fun k q => .inl q)
    have hrf2 : RfAt Z2 b N ((shL (shI k) E sh).filter fun y => y.id != id) := ⟨_, h3, h2.del id⟩
    clear h1 h2 h3 hg2 ht2 hZ hZb hbZ
    refine wpAnyH_delN 10 _ _ _ _ (by kernel_rfl) (by rfl) (by kernel_rfl) (by rfl) (by rfl) (by rfl) hrun hTZ ?_
    (try simp only [List.getElem_toArray, List.getElem_cons_zero, List.getElem_cons_succ, Act.put])
    refine wpAnyH_done (by kernel_rfl) ?_ _
    clear hrun
    have hm2 : Blk Z2 mp 54 (idC sb k ver) := HS4.out.m.tch hTZ (fun q => HBB.out.1 q.symm)
    have c1 : Z2.cell? ⟨mp, 1, none⟩ = some (.int .i64 ver) := hm2.cell 1
    have f1 : Z2.frozen? ⟨mp, 1, none⟩ = false := hm2.frozen 1
    have HM2 := Lib.hid hm2
    have HRF := Lib.hid hrf2
    have HTZ := Lib.hid hTZ
    clear hm2 hTZ hrf2 hH
    go_upto_region 5 with fail
    have tV : Tch (fun x => x = mp) Z2 (Z2.setCell ⟨mp, 1, none⟩ (.int .i64 (ver + 1))) := Tch.setCell (S := fun x => x = mp) (Tch.refl _ Z2) rfl 1 _
    have hm3 : Blk (Z2.setCell ⟨mp, 1, none⟩ (.int .i64 (ver + 1))) mp 54 (idC sb k (ver + 1)) := HM2.out.set_ 1 _
    obtain ⟨Z3, hZ3⟩ : ∃ q, Z2.setCell ⟨mp, 1, none⟩ (.int .i64 (ver + 1)) = q := ⟨_, rfl⟩
    rw [hZ3] at tV hm3 ⊢
    have hTf : Tch (idF mp bs) w1 Z3 := (HTZ1.out.mono (S' := idF mp bs) (fun k _ hk => .inr (hk ▸ List.mem_of_getElem? HBI.out))).trans tV (fun k q => .inl (.inl q))
    have HSF : Hid (IdS Z3 mp sb k N bs (dropL E id) (ver + 1)) := by
      refine HS1.out.write (id := id) (E' := dropL E id) hTf (by rw [HSH.out]; exact HBI.out) HTZ1.out tV hm3 ?_ (Nat.le_refl N) (fun i hi => by unfold dropL; rw [shL_del, if_neg (fun q => hi q.symm)]) (HS1.out.e.filter _)
      unfold dropL
      rw [shL_del, if_pos rfl, HSH.out]
      exact HRF.out
    have hmpw : mp < w.heap.size := HS0.out.m.lt
    have kG3 : Blk Z3 w2.heap.size 32 (refC gx) := (HKG.out.tch HTZ.out (fun q => HBB.out.2.2.2 q.symm)).tch tV (by have := HB1.out.size; have := HGZ.out; omega)
    have k3 : Blk Z3 w.heap.size 32 ref0 := ((HK1.out.below HB4.out HK1.out.lt).tch HTZ.out (fun q => HBB.out.2.2.1 q.symm)).tch tV (by omega)
    have LX := ref_load kG3
    have SR : (Instr.storeAt 32 (.pointer (some ⟨w.heap.size, 0, none⟩)) (refV gx)).run Try.prog Z3 = .ok () _ := row_store k3 (refC gx) rfl refTN (by simp [refC, Value.oneCell'])
    obtain ⟨V, hV⟩ : ∃ V, Z3.setCells w.heap.size 0 (refC gx).toList = V := ⟨_, rfl⟩
    rw [hV] at SR
    have HV : Hid (Blk V w.heap.size 32 (refC gx)) := by show Blk _ _ _ _; rw [← hV]; exact k3.put _ rfl
    have hTV : Tch (fun k => k = w.heap.size) Z3 V := by rw [← hV]; exact Tch.setCells (S := fun k => k = w.heap.size) rfl _ _ Z3 (Tch.refl _ Z3)
    have HSV : Hid (IdS V mp sb k N bs (dropL E id) (ver + 1)) := HSF.out.keep hTV (fun x hx => by
      subst hx
      exact ⟨fun q => HBX.out (.inl q), fun q => by have := HS0.out.slt; omega, fun q => HBX.out (.inr q)⟩)
    have HTT : Hid (Tch (idF mp bs) w V) := ((Tch.of_below (S := idF mp bs) HB1.out).trans hTf (fun k q => .inl q)).trans hTV (fun k q => .inr (Nat.le_of_eq q.symm))
    clear hV k3 kG3 tV hm3 hZ3 hTf hTV hmpw
    go_wp2_with (first | refine wpList_loadE LX _ rfl rfl rfl ?_ | refine wpList_storeE SR _ _ rfl rfl rfl rfl ?_)
    refine bodyPost_ret (v := .tuple #[refV gx, .bool true]) ?_ rfl ⟨rfl, HTT.out, HSV.out⟩
    exact results_row11N (P := Try.prog) Try.results7 _ rfl HV.out Try.underlying32 rfl refTN
set_option maxRecDepth 100000 in
set_option maxHeartbeats 2000000 in
theorem id_len {w : World} {mp sb k N : Nat} {bs : List Nat} {E : List Nm} {ver : Int} (S : IdS w mp sb k N bs E ver) (hE : E.length ≤ 1048576) :
    Calls Try.prog 11 #[.pointer (some ⟨mp, 0, none⟩)] w (fun e w' => e = .returned (.int .i64 ((E.length : Nat) : Int)) ∧ Below w.heap.size w w') := by
  have c0 : w.cell? ⟨mp, 0, none⟩ = some (.slice (some ⟨sb, 0, none⟩) k k) := S.m.cell 0
  have HS := Lib.hid S
  have hk64 := S.k0.2
  have HUP : Hid (∀ j, (upL (shI k) E j).length ≤ 1048576) := fun j => Nat.le_trans (List.length_filter_le _ _) hE
  clear S hE
  go_enter Try.func11, Try.ntmps11
  go_wp2_with fail
  go_loopw [3, 5, 13] (fun s3 _ s13 wr => ∃ j : Nat, j ≤ k ∧ s13 = .int .i64 j ∧ s3 = .int .i64 (((upL (shI k) E j).length : Nat) : Int) ∧ Hid (w = wr)) (fun _ _ s13 _ => k - (intOf s13).toNat)
  case atStart => exact ⟨0, Nat.zero_le _, rfl, by rw [upL_zero]; rfl, Lib.hid rfl⟩
  case round =>
    obtain ⟨j, hj, rfl, rfl, hw⟩ := hrel
    obtain rfl := hw.out
    by_cases hlt : j < k
    · obtain ⟨b, hb, hcb, D, h1, h2⟩ := HS.out.at_ hlt
      have HOW := Lib.hid h1
      obtain ⟨u, hu⟩ : ∃ u, (upL (shI k) E j).length = u := ⟨_, rfl⟩
      obtain ⟨v, hv⟩ : ∃ v, Maps.size D = v := ⟨_, rfl⟩
      have hsum : u + v = (upL (shI k) E (j + 1)).length := by rw [← hu, ← hv, h2.size_]; exact upL_len _ _ _
      have hub := HUP.out (j + 1)
      rw [← hsum] at hub
      have HSUM := Lib.hid hsum
      have HV := Lib.hid hv
      rw [hu]
      clear hb h1 h2 hu hv hsum
      go_wp2_with (at_len; refine wpList_len_own _ rfl _ 55 rfl 28 32 Try.underlying55 refElem b N D rfl HOW.out ?_; rw [HV.out])
      go_roundw
      case rel => exact ⟨j + 1, by omega, by go_num, by rw [← HSUM.out]; go_num, trivial⟩
      case measure => simp [intOf]; omega
    · obtain rfl : j = k := by omega
      have he : upL (shI j) E j = E := upL_all (fun i => shI_lt HS.out.k0.1 i) E
      rw [he]
      go_wp2_with fail
      go_ret
      exact ⟨rfl, Below.refl _ _⟩
end Go.Proofs.Ythcmajeamandfaa
