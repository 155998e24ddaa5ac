/- Planes: what Link does, step by step. -/
import Derived.Test.YtckclflbcgblaaaPmN
namespace Go.Proofs.Ytckclflbcgblaaa
open Go.RowKit Go.Maps Go.ChangeMaps Go.MapKept
theorem own_ats {w : World} {B : Nat} {A : Option Addr} {n c : Nat} {xs : List Int} (ho : OwnI w B A n c xs) (hn : n ≤ 1048576) (hw : ∀ x ∈ xs, (Lit.int .i64 x).wf = true) : IS.AtS w (fun b => B ≤ b ∧ b < w.heap.size) .i64 ⟨A, n, c, xs⟩ ∧ n ≤ c := by
  have hnc : n ≤ c := by
    rcases ho.row with ⟨_, e0, _⟩ | ⟨g, e, hg, h9, _⟩
    · omega
    · exact h9
  refine ⟨⟨ho.none_, hn, ⟨by rw [List.length_map]; exact ho.len, fun h0 => ?_⟩, hw⟩, hnc⟩
  have h0 : 0 < n := h0
  rcases ho.row with ⟨_, e0, _⟩ | ⟨g, e, hg, _, _, cs, hcs, hln, htk⟩
  · omega
  · refine ⟨g, 0, e, ⟨hg, hcs.ib.lt⟩, fun q u hu => ?_⟩
    rw [List.getElem?_map, Option.map_eq_some_iff] at hu
    obtain ⟨x, hx, rfl⟩ := hu
    have hqn : q < n := by
      have h1 := (List.getElem?_eq_some_iff.1 hx).1
      have h2 := ho.len
      have h3 : (⟨A, n, c, xs⟩ : IS).xs.length = n := h2
      omega
    rw [Nat.zero_add, hcs.ib.cell (by omega)]
    congr 2
    have hx' : xs[q]? = some x := hx
    rw [← htk, List.getElem?_take, if_pos hqn] at hx'
    unfold ig; rw [List.getD_eq_getElem?_getD, hx']; rfl
/-- A node's list is another one. -/
theorem PtS.setList {w wr Z : World} {r B g c : Nat} {en tp : Int} {W : Nat → Prop} {hl : Nat → Nat} {ns : List ND} (H : PtS w wr r B g c en tp W hl ns) (hb : Below wr.heap.size wr Z) {i k : Nat} (hi : i < ns.length) (hk : k < (nAt ns i).ln)
    {A : Option Addr} {n c' : Nat} {xs : List Int} (ho : OwnI Z wr.heap.size A n c' xs) (hn : n ≤ 1048576) (hw : ∀ x ∈ xs, (Lit.int .i64 x).wf = true) :
    wr.cell? ⟨g, i * 7 + 4, none⟩ = some (.slice (some ⟨hl i, 0, none⟩) (nAt ns i).ln (nAt ns i).lc) ∧ (∃ u, Z.cell? ⟨hl i, k, none⟩ = some u) ∧ Z.frozen? ⟨hl i, k, none⟩ = false ∧
    PtS w (Z.setCell ⟨hl i, k, none⟩ (.slice A n c')) r B g c en tp W hl (ns.set i { nAt ns i with ls := (nAt ns i).ls.set k ⟨A, n, c', xs⟩ }) := by
  have hd := getElem_nAt hi
  obtain ⟨e1, e2, e3, e4, e5⟩ := H.own.own i _ hd hi (by omega)
  have hn4 := (H.own.nd i _ hd).2.2.2.1
  have HZ := H.more hb
  obtain ⟨f1, f2, f3, f4, f5⟩ := HZ.own.own i _ hd hi (by omega)
  have hx := H.own.row.cell (flat_get2 hd 4 (by decide))
  have hbB := H.bB
  have hs := hb.size
  have hT : Tch (fun q => q = hl i) Z (Z.setCell ⟨hl i, k, none⟩ (.slice A n c')) := Tch.setCell (S := fun q => q = hl i) (Tch.refl _ _) rfl _ _
  have hsz : (Z.setCell ⟨hl i, k, none⟩ (.slice A n c')).heap.size = Z.heap.size := by simp [World.setCell]
  refine ⟨by rw [← e1]; exact hx, ⟨_, f5.cell (List.getElem?_eq_getElem (by rw [List.length_map, hn4]; exact hk))⟩, f5.frozen k, ?_, (HZ.bel).setCell (by show w.heap.size ≤ hl i; omega) _, ?_, HZ.res.tch hT (by omega), HZ.wl, hbB.1, hbB.2.1, by omega⟩
  · rw [List.length_set]
    obtain ⟨a1, a2⟩ := own_ats ho hn hw
    exact H.own.setList hb hd hi hk ⟨A, n, c', xs⟩ a1 a2
  · rw [List.length_set]
    exact HZ.pl.tch hT (by omega)
def lsSet (ns : List ND) (i k : Nat) (xs : List Int) : List ND := ns.set i { nAt ns i with ls := (nAt ns i).ls.set k ⟨none, xs.length, xs.length, xs⟩ }
theorem norm_ls {d d' : ND} (h : d.norm = d'.norm) (k : Nat) {l l' : IS} (hl : l.norm = l'.norm) : ({ d with ls := d.ls.set k l } : ND).norm = ({ d' with ls := d'.ls.set k l' } : ND).norm := by
  have e1 : d.ls.map IS.norm = d'.ls.map IS.norm := congrArg ND.ls h
  have e := congrArg (fun x : ND => ({ x with ls := (d.ls.map IS.norm).set k l.norm } : ND)) h
  unfold ND.norm at e ⊢
  simp only at e ⊢
  rw [List.map_set, List.map_set, ← e1, ← hl]
  exact e
theorem lsSet_eqv {ns ns' : List ND} (h : Eqv ns ns') (i k : Nat) {A : Option Addr} {n c : Nat} {xs : List Int} (hn : xs.length = n) : Eqv (lsSet ns i k xs) (ns'.set i { nAt ns' i with ls := (nAt ns' i).ls.set k ⟨A, n, c, xs⟩ }) := by
  unfold lsSet
  exact h.set i (norm_ls (h.nAt i) k (by unfold IS.norm; rw [hn]))
theorem yieldsIf_min {P : Program} {ops : Array Oper} {S : World → Prop} {o : Oper} {a : Act} {t t' : TypeId} {m n : Int} (hw : Region.wanted o (yielded ops a.tmps) = true) (x y : Operand) (ho : o.op = .call { callee := .builtin .min, args := #[x, y], argTypes := #[t, t'] }) (hx : a.eval x = .int .i64 m) (hy : a.eval y = .int .i64 n) : YieldsIf P ops S o (.int .i64 (min m n)) a := by
  refine .inl ⟨hw, fun w _ => ?_⟩
  unfold execOp
  simp only [ho, resolve, invoke, builtin, Sem.run_bind, Sem.run_pure, Result.andThen_ok, List.map_toArray, List.map_cons, List.map_nil, hx, hy]
  simp [go_sem]
/-- Two are neighbours. -/
def linkSt (ns : List ND) (a b k : Nat) : List ND := lsSet (lsSet ns a k (withI (lsAt (nAt ns a) k).xs b)) b k (withI (lsAt (nAt ns b) k).xs a)
/-- Whether they may be. -/
def linkB (ns : List ND) (links en tp a b level : Int) : Bool :=
  chkB ns links en tp && thB ns a && thB ns b && !(a == b) && !decide (level < 0) && !decide (level > min (nAt ns a.toNat).level (nAt ns b.toNat).level) &&
  !hasI (lsAt (nAt ns a.toNat) level.toNat).xs b && !decide (max ((lsAt (nAt ns a.toNat) level.toNat).xs.length : Int) ((lsAt (nAt ns b.toNat) level.toNat).xs.length : Int) ≥ mostE links level)
end Go.Proofs.Ytckclflbcgblaaa
