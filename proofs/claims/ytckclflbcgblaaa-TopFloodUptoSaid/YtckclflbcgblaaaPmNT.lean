/- Planes: Link, Drop; planes by what they are. -/
import Derived.Test.YtckclflbcgblaaaPmGM
import Derived.Test.YtckclflbcgblaaaEgW
import Derived.Laws.CopyOwn
import Derived.Deep.CutRange
import Derived.Test.YtckclflbcgblaaaSame
namespace Go.Proofs.Ytckclflbcgblaaa
open Go.RowKit Go.Maps Go.ChangeMaps Go.MapKept
theorem make_room (n : Nat) (hn : n ≤ 1048576) (w : World) : (Instr.makeSlice 23 (.int .i64 (n : Int)) (.int .i64 ((n : Int) + 1))).run Try.prog w = .ok (.slice (some ⟨w.heap.size, 0, none⟩) n (n + 1)) (w.alloc (.cells (madeCells #[.int .i64 0] (n + 1)) 3)) := by
  obtain ⟨i, hi, hz, hz1, hz2⟩ := info_parts info_int
  have hr := run_make (P := Try.prog) w 23 3 i _ Try.underlying23 hi hz .i64 .i64 n (n + 1) (by omega) (by omega) (by rw [hz2]; omega) (by omega)
  rw [show ((n : Int) + 1).toNat = n + 1 by omega, hz1, Nat.mul_one, Int.toNat_natCast] at hr
  exact hr
theorem madeI_list (n : Nat) : madeCells #[.int .i64 0] n = (List.replicate n (Value.int .i64 0)).toArray := by
  apply Array.ext
  · simp [madeCells]
  · intro i h1 h2
    simp [madeCells, Nat.mod_one]
theorem own_spliced {w' : World} {g n B : Nat} {xs : List Int} (hl : xs.length = n) (hB : B ≤ g) (hn : n ≤ 1048576) (h : w'.heap[g]? = some (.cells (splice (List.replicate (n + 1) (Value.int .i64 0)) 0 (xs.map (.int .i64))).toArray 3 (0, 0))) :
    OwnI w' B (some ⟨g, 0, none⟩) n (n + 1) xs := by
  refine ⟨by simp [hl], .inr ⟨g, n + 1, _, rfl, hB, h, by omega, by unfold maxLen; omega, ?_, ?_⟩⟩
  · simp [splice, hl]
  · simp [splice, hl]
theorem own_ats {w : World} {B : Nat} {A : Option Addr} {n c : Nat} {xs : List Int} (ho : OwnI w B A n c xs) (hn : n ≤ 1048576) (hw : ∀ x ∈ xs, (Lit.int .i64 x).wf = true) : IS.AtS w (fun b => B ≤ b ∧ b < w.heap.size) .i64 ⟨A, n, c, xs⟩ ∧ n ≤ c := by
  have hnc : n ≤ c := by
    rcases ho.row with ⟨_, e0, _⟩ | ⟨g, e, hg, h9, _⟩
    · omega
    · exact h9
  refine ⟨⟨ho.none_, hn, ⟨by rw [List.length_map]; exact ho.len, fun h0 => ?_⟩, hw⟩, hnc⟩
  have h0 : 0 < n := h0
  rcases ho.row with ⟨_, e0, _⟩ | ⟨g, e, hg, _, _, cs, hcs, hln, htk⟩
  · omega
  · refine ⟨g, 0, e, ⟨hg, hcs.ib.lt⟩, fun q u hu => ?_⟩
    rw [List.getElem?_map, Option.map_eq_some_iff] at hu
    obtain ⟨x, hx, rfl⟩ := hu
    have hqn : q < n := by
      have h1 := (List.getElem?_eq_some_iff.1 hx).1
      have h2 := ho.len
      have h3 : (⟨A, n, c, xs⟩ : IS).xs.length = n := h2
      omega
    rw [Nat.zero_add, hcs.ib.cell (by omega)]
    congr 2
    have hx' : xs[q]? = some x := hx
    rw [← htk, List.getElem?_take, if_pos hqn] at hx'
    unfold ig; rw [List.getD_eq_getElem?_getD, hx']; rfl
/-- A node's list is another one. -/
theorem PtS.setList {w wr Z : World} {r B g c : Nat} {en tp : Int} {W : Nat → Prop} {hl : Nat → Nat} {ns : List ND} (H : PtS w wr r B g c en tp W hl ns) (hb : Below wr.heap.size wr Z) {i k : Nat} (hi : i < ns.length) (hk : k < (nAt ns i).ln)
    {A : Option Addr} {n c' : Nat} {xs : List Int} (ho : OwnI Z wr.heap.size A n c' xs) (hn : n ≤ 1048576) (hw : ∀ x ∈ xs, (Lit.int .i64 x).wf = true) :
    wr.cell? ⟨g, i * 7 + 4, none⟩ = some (.slice (some ⟨hl i, 0, none⟩) (nAt ns i).ln (nAt ns i).lc) ∧ (∃ u, Z.cell? ⟨hl i, k, none⟩ = some u) ∧ Z.frozen? ⟨hl i, k, none⟩ = false ∧
    PtS w (Z.setCell ⟨hl i, k, none⟩ (.slice A n c')) r B g c en tp W hl (ns.set i { nAt ns i with ls := (nAt ns i).ls.set k ⟨A, n, c', xs⟩ }) := by
  have hd := getElem_nAt hi
  obtain ⟨e1, e2, e3, e4, e5⟩ := H.own.own i _ hd hi (by omega)
  have hn4 := (H.own.nd i _ hd).2.2.2.1
  have HZ := H.more hb
  obtain ⟨f1, f2, f3, f4, f5⟩ := HZ.own.own i _ hd hi (by omega)
  have hx := H.own.row.cell (flat_get2 hd 4 (by decide))
  have hbB := H.bB
  have hs := hb.size
  have hT : Tch (fun q => q = hl i) Z (Z.setCell ⟨hl i, k, none⟩ (.slice A n c')) := Tch.setCell (S := fun q => q = hl i) (Tch.refl _ _) rfl _ _
  have hsz : (Z.setCell ⟨hl i, k, none⟩ (.slice A n c')).heap.size = Z.heap.size := by simp [World.setCell]
  refine ⟨by rw [← e1]; exact hx, ⟨_, f5.cell (List.getElem?_eq_getElem (by rw [List.length_map, hn4]; exact hk))⟩, f5.frozen k, ?_, (HZ.bel).setCell (by show w.heap.size ≤ hl i; omega) _, ?_, HZ.res.tch hT (by omega), HZ.wl, hbB.1, hbB.2.1, by omega⟩
  · rw [List.length_set]
    obtain ⟨a1, a2⟩ := own_ats ho hn hw
    exact H.own.setList hb hd hi hk ⟨A, n, c', xs⟩ a1 a2
  · rw [List.length_set]
    exact HZ.pl.tch hT (by omega)
def lsSet (ns : List ND) (i k : Nat) (xs : List Int) : List ND := ns.set i { nAt ns i with ls := (nAt ns i).ls.set k ⟨none, xs.length, xs.length, xs⟩ }
theorem norm_ls {d d' : ND} (h : d.norm = d'.norm) (k : Nat) {l l' : IS} (hl : l.norm = l'.norm) : ({ d with ls := d.ls.set k l } : ND).norm = ({ d' with ls := d'.ls.set k l' } : ND).norm := by
  have e1 : d.ls.map IS.norm = d'.ls.map IS.norm := congrArg ND.ls h
  have e := congrArg (fun x : ND => ({ x with ls := (d.ls.map IS.norm).set k l.norm } : ND)) h
  unfold ND.norm at e ⊢
  simp only at e ⊢
  rw [List.map_set, List.map_set, ← e1, ← hl]
  exact e
theorem lsSet_eqv {ns ns' : List ND} (h : Eqv ns ns') (i k : Nat) {A : Option Addr} {n c : Nat} {xs : List Int} (hn : xs.length = n) : Eqv (lsSet ns i k xs) (ns'.set i { nAt ns' i with ls := (nAt ns' i).ls.set k ⟨A, n, c, xs⟩ }) := by
  unfold lsSet
  exact h.set i (norm_ls (h.nAt i) k (by unfold IS.norm; rw [hn]))
theorem yieldsIf_min {P : Program} {ops : Array Oper} {S : World → Prop} {o : Oper} {a : Act} {t t' : TypeId} {m n : Int} (hw : Region.wanted o (yielded ops a.tmps) = true) (x y : Operand) (ho : o.op = .call { callee := .builtin .min, args := #[x, y], argTypes := #[t, t'] }) (hx : a.eval x = .int .i64 m) (hy : a.eval y = .int .i64 n) : YieldsIf P ops S o (.int .i64 (min m n)) a := by
  refine .inl ⟨hw, fun w _ => ?_⟩
  unfold execOp
  simp only [ho, resolve, invoke, builtin, Sem.run_bind, Sem.run_pure, Result.andThen_ok, List.map_toArray, List.map_cons, List.map_nil, hx, hy]
  simp [go_sem]
/-- Two are neighbours. -/
def linkSt (ns : List ND) (a b k : Nat) : List ND := lsSet (lsSet ns a k (withI (lsAt (nAt ns a) k).xs b)) b k (withI (lsAt (nAt ns b) k).xs a)
/-- Whether they may be. -/
def linkB (ns : List ND) (links en tp a b level : Int) : Bool :=
  chkB ns links en tp && thB ns a && thB ns b && !(a == b) && !decide (level < 0) && !decide (level > min (nAt ns a.toNat).level (nAt ns b.toNat).level) &&
  !hasI (lsAt (nAt ns a.toNat) level.toNat).xs b && !decide (max ((lsAt (nAt ns a.toNat) level.toNat).xs.length : Int) ((lsAt (nAt ns b.toNat) level.toNat).xs.length : Int) ≥ mostE links level)
def LinkR (ns : List ND) (links en tp a b level : Int) (w : World) (e : Ending) (w' : World) : Prop :=
  ∃ g n c ns', e = .returned (.tuple #[.agg (pgL (some ⟨g, 0, none⟩) n c en tp), .bool (linkB ns links en tp a b level)]) ∧ PgAt w' w'.heap.size (some ⟨g, 0, none⟩) n c ns' ∧ Eqv (if linkB ns links en tp a b level then linkSt ns a.toNat b.toNat level.toNat else ns) ns' ∧ Below w.heap.size w w'
theorem nAt_set_ne {ns : List ND} {i j : Nat} {d : ND} (h : i ≠ j) : nAt (ns.set i d) j = nAt ns j := by
  unfold nAt
  rw [List.getD_eq_getElem?_getD, List.getD_eq_getElem?_getD, List.getElem?_set_ne h]
theorem nAt_set_self {ns : List ND} {i : Nat} {d : ND} (h : i < ns.length) : nAt (ns.set i d) i = d := nAt_of (List.getElem?_set_self h)
theorem with_len (xs : List Int) (v : Int) : (withI xs v).length ≤ xs.length + 1 := by unfold withI; split <;> simp
theorem with_wf {xs : List Int} {v : Int} (h : ∀ x ∈ xs, (Lit.int .i64 x).wf = true) (hv : (Lit.int .i64 v).wf = true) : ∀ x ∈ withI xs v, (Lit.int .i64 x).wf = true := by
  unfold withI
  split
  · exact h
  · intro x hx
    rcases List.mem_append.1 hx with hx | hx
    · exact h x hx
    · rw [List.mem_singleton.1 hx]; exact hv
theorem store_ints {w : World} {b o : Nat} {u : Value} (h : w.cell? ⟨b, o, none⟩ = some u) (hf : w.frozen? ⟨b, o, none⟩ = false) {A : Option Addr} {n c : Nat} : (Instr.storeAt 23 (.pointer (some ⟨b, o, none⟩)) (.slice A n c)).run Try.prog w = .ok () (w.setCell ⟨b, o, none⟩ (.slice A n c)) := by
  simp [go_sem, h, hf]
theorem chk_level {ns : List ND} {links en tp : Int} (h : chkB ns links en tp = true) {i : Nat} (hi : thN ns i = true) : 0 ≤ (nAt ns i).level ∧ (nAt ns i).level ≤ 7 ∧ ((nAt ns i).ln : Int) = (nAt ns i).level + 1 := by
  obtain ⟨_, _, _, h4, _⟩ := chk_parts h
  rw [List.all_eq_true] at h4
  have hm : (i : Int) ∈ liveI ns := by
    unfold liveI lvI
    exact List.mem_map.2 ⟨i, List.mem_filter.2 ⟨List.mem_range.2 (thN_iff.1 hi).2.1, hi⟩, rfl⟩
  have := h4 _ hm
  rw [Int.toNat_natCast] at this
  unfold nodeB at this
  rw [Bool.and_eq_true, Bool.and_eq_true] at this
  exact shape_iff this.1.1
/-- A node that is not there. -/
def ndX : ND := ⟨0, ⟨none, 0, 0, []⟩, 0, 0, none, 0, 0, [], -1, -1⟩
theorem PtS.bare {w wr : World} {r B g c : Nat} {en tp : Int} {W : Nat → Prop} {hl : Nat → Nat} {ns : List ND} (H : PtS w wr r B g c en tp W hl ns) {i : Nat} (hi : i < ns.length) :
    wr.there g (i * 7) 7 ∧ ∃ W' hl', PtS w (wr.setCells g (i * 7) ndX.cells.toList) r B g c en tp W' hl' (ns.set i ndX) := by
  have hgB := H.own.gB
  have hbB := H.bB
  have hsz := H.bel.size
  have hgl := H.own.row.lt
  have hT : Tch (fun k => k = g) wr (wr.setCells g (i * 7) ndX.cells.toList) := Tch.setCells (S := fun k => k = g) rfl _ _ _ (Tch.refl _ _)
  have hs2 := hT.size
  have hx := getElem_nAt hi
  refine ⟨fun j hj => ⟨?_, H.own.row.frozen _⟩, ?_⟩
  · rw [H.own.row.cell (flat_get2 hx j hj |>.trans (List.getElem?_eq_getElem (by rw [cells_len]; exact hj)))]; rfl
  obtain ⟨W', hl', O, hW⟩ := H.own.step (w' := wr.setCells g (i * 7) ndX.cells.toList) hT (i := i) (d' := ndX) (m' := ns.length) hi (.inl rfl) hi H.bB.2.2 (by have := H.own.row.setCells ndX.cells.toList (i * 7); rw [flat_setL hi] at this; exact this)
    ⟨⟨fun _ => ⟨rfl, rfl⟩, Nat.zero_le _, ⟨rfl, fun h => absurd h (by decide)⟩, (fun x hx => by cases hx)⟩, fun _ => ⟨rfl, rfl⟩, Nat.zero_le _, rfl, (fun l hl => by cases hl), rfl, rfl, rfl, rfl, (fun l hl => by cases hl)⟩
    (fun h => absurd h (by decide))
  refine ⟨W', hl', by rw [List.length_set]; exact O, below_setCells H.bel (Nat.le_refl _) (by omega) _ _, ?_, H.res.tch hT (by omega), fun k p1 p2 => hW k (H.wl k p1 p2), hbB.1, hbB.2.1, by omega⟩
  rw [List.length_set]
  exact H.pl.tch hT (by omega)
theorem PtS.entry {w wr : World} {r B g c : Nat} {en tp : Int} {W : Nat → Prop} {hl : Nat → Nat} {ns : List ND} (H : PtS w wr r B g c en tp W hl ns) :
    wr.cell? ⟨w.heap.size, 1, none⟩ = some (.int .i64 en) ∧ wr.frozen? ⟨w.heap.size, 1, none⟩ = false ∧ wr.cell? ⟨w.heap.size, 2, none⟩ = some (.int .i64 tp) ∧ wr.frozen? ⟨w.heap.size, 2, none⟩ = false ∧
    PtS w ((wr.setCell ⟨w.heap.size, 1, none⟩ (.int .i64 0)).setCell ⟨w.heap.size, 2, none⟩ (.int .i64 0)) r B g c 0 0 W hl ns := by
  have hbB := H.bB
  have hgB := H.own.gB
  have hT : Tch (fun k => k = w.heap.size) wr ((wr.setCell ⟨w.heap.size, 1, none⟩ (.int .i64 0)).setCell ⟨w.heap.size, 2, none⟩ (.int .i64 0)) := Tch.setCell (S := fun k => k = w.heap.size) (Tch.setCell (S := fun k => k = w.heap.size) (Tch.refl _ _) rfl _ _) rfl _ _
  have hs := hT.size
  refine ⟨H.pl.cell 1, H.pl.frozen 1, H.pl.cell 2, H.pl.frozen 2, H.own.off hT (H.wl _ (Nat.le_refl _) (by omega)) (by omega), (H.bel.setCell (Nat.le_refl _) _).setCell (Nat.le_refl _) _, ?_, H.res.tch hT (by omega), H.wl, hbB.1, hbB.2.1, by omega⟩
  exact (H.pl.set_ 1 (.int .i64 0)).set_ 2 (.int .i64 0)
def dropX (slot k : Nat) (l : List ND) (x : Int) : List ND := lsSet l x.toNat k (withoutI (lsAt (nAt l x.toNat) k).xs slot)
def dropK (slot : Nat) (d : ND) (l : List ND) (k : Nat) : List ND := (lsAt d k).xs.foldl (dropX slot k) l
def unlinkN (ns : List ND) (pv nx : Nat) : List ND := (ns.set pv { nAt ns pv with next := (nx : Int) }).set nx { nAt (ns.set pv { nAt ns pv with next := (nx : Int) }) nx with prev := (pv : Int) }
def dropL (slot : Nat) (d : ND) (l : List ND) (m : Nat) : List ND := (List.range m).foldl (dropK slot d) l
/-- A plane without a node. -/
def dropSt (ns : List ND) (slot : Nat) : List ND := (dropL slot (nAt ns slot) (unlinkN ns (nAt ns slot).prev.toNat (nAt ns slot).next.toNat) (nAt ns slot).ln).set slot ndX
theorem lsSet_len (l : List ND) (i k : Nat) (xs : List Int) : (lsSet l i k xs).length = l.length := by unfold lsSet; rw [List.length_set]
theorem nAt_out {ns : List ND} {i : Nat} (h : ns.length ≤ i) : nAt ns i = nd0 := by unfold nAt; rw [List.getD_eq_getElem?_getD, List.getElem?_eq_none h]; rfl
theorem set_out {ns : List ND} {i : Nat} {d : ND} (h : ns.length ≤ i) : ns.set i d = ns := List.set_eq_of_length_le h
theorem lsSet_ln (l : List ND) (i k j : Nat) (xs : List Int) : (nAt (lsSet l i k xs) j).ln = (nAt l j).ln := by
  unfold lsSet
  by_cases h : i = j
  · subst h
    by_cases hi : i < l.length
    · rw [nAt_set_self hi]
    · rw [set_out (by omega)]
  · rw [nAt_set_ne h]
theorem lsSet_ls {l : List ND} {i k j : Nat} {xs : List Int} (h : i ≠ j) : nAt (lsSet l i k xs) j = nAt l j := nAt_set_ne h
theorem dropX_len (slot k : Nat) (l : List ND) (x : Int) : (dropX slot k l x).length = l.length := lsSet_len _ _ _ _
theorem dropX_ln (slot k : Nat) (l : List ND) (x : Int) (j : Nat) : (nAt (dropX slot k l x) j).ln = (nAt l j).ln := lsSet_ln _ _ _ _ _
theorem foldX_ln (slot k : Nat) : ∀ (xs : List Int) (l : List ND) (j : Nat), (nAt (xs.foldl (dropX slot k) l) j).ln = (nAt l j).ln
  | [], _, _ => rfl
  | x :: xs, l, j => by rw [List.foldl_cons, foldX_ln slot k xs, dropX_ln]
theorem foldX_len (slot k : Nat) : ∀ (xs : List Int) (l : List ND), (xs.foldl (dropX slot k) l).length = l.length
  | [], _ => rfl
  | x :: xs, l => by rw [List.foldl_cons, foldX_len slot k xs, dropX_len]
theorem dropL_succ (slot : Nat) (d : ND) (l : List ND) (m : Nat) : dropL slot d l (m + 1) = dropK slot d (dropL slot d l m) m := by unfold dropL; rw [List.range_succ, List.foldl_append]; rfl
theorem dropL_ln (slot : Nat) (d : ND) (l : List ND) (j : Nat) : ∀ m, (nAt (dropL slot d l m) j).ln = (nAt l j).ln
  | 0 => rfl
  | m + 1 => by rw [dropL_succ]; unfold dropK; rw [foldX_ln, dropL_ln slot d l j m]
theorem dropL_len (slot : Nat) (d : ND) (l : List ND) : ∀ m, (dropL slot d l m).length = l.length
  | 0 => rfl
  | m + 1 => by rw [dropL_succ]; unfold dropK; rw [foldX_len, dropL_len slot d l m]
theorem unlink_len (ns : List ND) (pv nx : Nat) : (unlinkN ns pv nx).length = ns.length := by unfold unlinkN; rw [List.length_set, List.length_set]
theorem unlink_ls (ns : List ND) (pv nx j : Nat) : (nAt (unlinkN ns pv nx) j).ls = (nAt ns j).ls ∧ (nAt (unlinkN ns pv nx) j).ln = (nAt ns j).ln := by
  have key : ∀ (l : List ND) (i : Nat) (d : ND), d.ls = (nAt l i).ls → d.ln = (nAt l i).ln → (nAt (l.set i d) j).ls = (nAt l j).ls ∧ (nAt (l.set i d) j).ln = (nAt l j).ln := by
    intro l i d h1 h2
    by_cases h : i = j
    · subst h
      by_cases hi : i < l.length
      · rw [nAt_set_self hi]; exact ⟨h1, h2⟩
      · rw [set_out (by omega)]; exact ⟨rfl, rfl⟩
    · rw [nAt_set_ne h]; exact ⟨rfl, rfl⟩
  unfold unlinkN
  obtain ⟨a1, a2⟩ := key (ns.set pv { nAt ns pv with next := (nx : Int) }) nx { nAt (ns.set pv { nAt ns pv with next := (nx : Int) }) nx with prev := (pv : Int) } rfl rfl
  obtain ⟨b1, b2⟩ := key ns pv { nAt ns pv with next := (nx : Int) } rfl rfl
  exact ⟨a1.trans b1, a2.trans b2⟩
theorem unlink_eqv {ns ns' : List ND} (h : Eqv ns ns') (pv nx : Nat) : Eqv (unlinkN ns pv nx) (unlinkN ns' pv nx) := by
  unfold unlinkN
  have h1 := h.set pv (norm_next (h.nAt pv) (nx : Int))
  exact h1.set nx (norm_prev (h1.nAt nx) (pv : Int))
theorem without_len (xs : List Int) (v : Int) : (withoutI xs v).length ≤ xs.length := List.length_filter_le _ _
theorem without_wf {xs : List Int} {v : Int} (h : ∀ x ∈ xs, (Lit.int .i64 x).wf = true) : ∀ x ∈ withoutI xs v, (Lit.int .i64 x).wf = true := fun x hx => h x (List.mem_filter.1 hx).1
/-- What a right plane says of a node's neighbours. -/
theorem chk_list {ns : List ND} {links en tp : Int} (h : chkB ns links en tp = true) {i k : Nat} (hi : thN ns i = true) (hk : k < (nAt ns i).ln) {x : Int} (hx : x ∈ (lsAt (nAt ns i) k).xs) : ∃ j : Nat, x = j ∧ thN ns j = true ∧ j ≠ i ∧ k < (nAt ns j).ln ∧ (i : Int) ∈ (lsAt (nAt ns j) k).xs := by
  obtain ⟨_, _, _, h4, _⟩ := chk_parts h
  rw [List.all_eq_true] at h4
  have hm : (i : Int) ∈ liveI ns := by
    unfold liveI lvI
    exact List.mem_map.2 ⟨i, List.mem_filter.2 ⟨List.mem_range.2 (thN_iff.1 hi).2.1, hi⟩, rfl⟩
  have h5 := h4 _ hm
  rw [Int.toNat_natCast] at h5
  unfold nodeB at h5
  rw [Bool.and_eq_true, Bool.and_eq_true] at h5
  have h6 := h5.1.2
  unfold listsB at h6
  rw [List.all_eq_true] at h6
  have h7 := h6 k (List.mem_range.2 hk)
  unfold listB at h7
  rw [Bool.and_eq_true, List.all_eq_true] at h7
  obtain ⟨h8, h9⟩ := h7
  have h10 := h9 x hx
  unfold backB at h10
  rw [Bool.and_eq_true, Bool.and_eq_true, decide_eq_true_eq] at h10
  obtain ⟨j, rfl, hj⟩ := thB_nat_iff.1 h10.1.1
  rw [Int.toNat_natCast] at h10
  refine ⟨j, rfl, hj, ?_, h10.1.2, hasI_iff.1 h10.2⟩
  rintro rfl
  unfold rightB at h8
  rw [Bool.and_eq_true, Bool.and_eq_true, List.all_eq_true] at h8
  have := h8.1.1 _ hx
  unfold okE at this
  simp at this
theorem chk_ring {ns : List ND} {links en tp : Int} (h : chkB ns links en tp = true) {i : Nat} (hi : thN ns i = true) : ∃ pv nx : Nat, (nAt ns i).prev = pv ∧ (nAt ns i).next = nx ∧ pv < ns.length ∧ nx < ns.length := by
  obtain ⟨h1, _, h3, _⟩ := chk_parts h
  have := ring_ok h3 (thN_iff.1 hi).2.1
  unfold rOk at this
  rw [if_neg (by rw [hi]; simp), Bool.and_eq_true, Bool.and_eq_true] at this
  obtain ⟨nx, e1, l1⟩ := place_nat (by omega) this.1.1
  obtain ⟨pv, e2, l2⟩ := place_nat (by omega) this.1.2
  exact ⟨pv, nx, e2, e1, l2, l1⟩
def dropB (ns : List ND) (links en tp slot : Int) : Bool := chkB ns links en tp && thB ns slot
def DropR (ns : List ND) (links en tp slot : Int) (w : World) (e : Ending) (w' : World) : Prop :=
  ∃ g n c ns', e = .returned (.tuple #[.agg (pgL (some ⟨g, 0, none⟩) n c (if dropB ns links en tp slot && (en == slot) then 0 else en) (if dropB ns links en tp slot && (en == slot) then 0 else tp)), .bool (dropB ns links en tp slot)]) ∧ PgAt w' w'.heap.size (some ⟨g, 0, none⟩) n c ns' ∧ Eqv (if dropB ns links en tp slot then dropSt ns slot.toNat else ns) ns' ∧ Below w.heap.size w w'
set_option maxRecDepth 100000 in
set_option maxHeartbeats 4000000 in
theorem pl_drop (A : Option Addr) (n c : Nat) (ns : List ND) (en tp links slot : Int) (w : World) (hg0 : PgAt w w.heap.size A n c ns) (h0 : 0 < n) :
    Calls Try.prog 8 #[.agg (pgL A n c en tp), .int .i64 slot, .int .i64 links] w (DropR ns links en tp slot w) := by
  obtain ⟨w2, hw2⟩ : ∃ x, (w.alloc (.cells (pgL A n c en tp) 27)).alloc (.cells (pgL none 0 0 0 0) 27) = x := ⟨_, rfl⟩
  have s1 : (w.alloc (.cells (pgL A n c en tp) 27)).heap.size = w.heap.size + 1 := by simp only [World.alloc, Array.size_push]
  have k1 : Blk w2 w.heap.size 27 (pgL A n c en tp) := by rw [← hw2]; exact (Blk.new _ _ _).alloc _
  have k2 : Blk w2 (w.heap.size + 1) 27 (pgL none 0 0 0 0) := by rw [← hw2, ← s1]; exact Blk.new _ _ _
  have b2 : Below w.heap.size w w2 := by rw [← hw2]; exact (bel_box w _).alloc (by rw [s1]; omega) _
  have hn := hg0.2.1
  have HL := Lib.hid hg0.len
  have HG := Lib.hid (hg0.on b2 b2.size)
  have HG0 := Lib.hid hg0
  have K1 := Lib.hid k1
  have K2 := Lib.hid k2
  have HB2 := Lib.hid b2
  have LP2 := plane_load k1
  have HCK := pl_check A n c ns en tp links w2 (hg0.on b2 b2.size)
  obtain ⟨ok, hok⟩ : ∃ ok, dropB ns links en tp slot = ok := ⟨_, rfl⟩
  have HOK := Lib.hid hok
  clear hg0 k1 k2 b2 s1
  rw [planeZ] at hw2
  unfold pgL at hw2 LP2 HCK ⊢
  go_enter Try.func8, Try.ntmps8
  go_upto_region 1 with fail
  (try rw [hw2])
  clear hw2
  go_cut [8] from 8 to 22 (fun s8 wx => s8 = .bool ok ∧ Hid (Below w2.heap.size w2 wx))
  case first =>
    cases hck : chkB ns links en tp with
    | false =>
      have HV : Hid (ok = false) := by show _ = _; rw [← HOK.out]; unfold dropB; rw [hck]; rfl
      rw [chkW_no hck] at HCK
      replace HCK := Lib.hid HCK
      clear hck hok
      go_wp2_with (first | ((with_reducible refine wpList_loadE (op := ⟨some 14, _, _, _, _, _⟩) LP2 ?leX ?leG ?leO ?leE ?_); (case leO => exact rfl); (case leE => exact rfl); (case leG => exact rfl)) | (go_at_call 12; (with_reducible refine HCK.out.mono ?_); rintro e w5 ⟨rfl, b5⟩; have HB5 := Lib.hid b5; clear b5))
      go_meet
      exact ⟨by rw [HV.out], HB5⟩
    | true =>
      have HV : Hid (ok = thB ns slot) := by show _ = _; rw [← HOK.out]; unfold dropB; rw [hck]; rfl
      rw [chkW_yes hck] at HCK
      replace HCK := Lib.hid HCK
      clear hck hok
      go_wp2_with (first | ((with_reducible refine wpList_loadE (op := ⟨some 14, _, _, _, _, _⟩) LP2 ?leX ?leG ?leO ?leE ?_); (case leO => exact rfl); (case leE => exact rfl); (case leG => exact rfl)) | ((with_reducible refine wpList_loadG (op := ⟨some 19, _, _, _, _, _⟩) LP5 ?lgX ?lgW ?lgO ?lgE ?_); (case lgO => exact rfl); (case lgE => exact rfl); (case lgW => kernel_rfl)) | (go_at_call 12; (with_reducible refine HCK.out.mono ?_); rintro e w5 ⟨rfl, b5⟩; have HB5 := Lib.hid b5; have LP5 := plane_load (K1.out.below b5 K1.out.lt); have HTH := pl_there A n c ns en tp slot w5 (HG.out.on b5 b5.size); unfold pgL at LP5 HTH; replace HTH := Lib.hid HTH; clear b5) | (go_at_call 20; (with_reducible refine HTH.out.mono ?_); rintro e w6 ⟨rfl, b6⟩; have HB6 := Lib.hid (HB5.out.trans (b6.mono HB5.out.size)); clear b6))
      go_meet
      exact ⟨by rw [HV.out], HB6⟩
  case rest =>
    obtain ⟨rfl, HBC⟩ := hcut
    clear LP2 HCK hok
    have LPZ := plane_load (K1.out.below HBC.out K1.out.lt)
    have h6w := HB2.out.trans (HBC.out.mono HB2.out.size)
    have HOW := Lib.hid (pl_own A n c ns en tp wc w.heap.size (HG0.out.below h6w) h6w.size h0)
    have K16 := Lib.hid (K1.out.below HBC.out K1.out.lt)
    have K26 := Lib.hid (K2.out.below HBC.out K2.out.lt)
    have H6W := Lib.hid h6w
    clear h6w
    unfold pgL at LPZ HOW
    go_wp2_with ((with_reducible refine wpList_loadE (op := ⟨some 23, _, _, _, _, _⟩) LPZ ?leX ?leG ?leO ?leE ?_); (case leO => exact rfl); (case leE => exact rfl); (case leG => exact rfl))
    refine HOW.out.mono ?_
    rintro e w7 ⟨B, g, c7, W, hl, ns7, rfl, hB, ho, hE, hW, hb7⟩
    have hn7 : ns7.length = n := by rw [← hE.len, HL.out]
    simp only [HL.out] at ho ⊢
    have K17 := K16.out.below hb7 K16.out.lt
    have SR7 := row_store K17 (pgL (some ⟨g, 0, none⟩) n c7 en tp) rfl planeT (by simp [pgL, Value.oneCell'])
    have hPT := PtS.start (en := en) (tp := tp) hB ho hn7 hW hb7 H6W.out K16.out K26.out (by omega) (by have h1 := ho.gB; have h2 := ho.row.lt; omega)
    obtain ⟨w8, hw8⟩ : ∃ x, w7.setCells w.heap.size 0 (pgL (some ⟨g, 0, none⟩) n c7 en tp).toList = x := ⟨_, rfl⟩
    rw [hw8] at SR7 hPT
    have HPT := Lib.hid hPT
    have HE7 := Lib.hid hE
    have HN7 := Lib.hid hn7
    clear hw8 K17 hPT hE hn7 ho hW hb7 HOW LPZ K16 K26 H6W
    unfold pgL at SR7 ⊢
    go_upto_region 3 with (refine wpList_storeE SR7 _ _ rfl rfl rfl rfl ?_)
    clear SR7
    have hEn : Hid ((if dropB ns links en tp slot && (en == slot) then (0 : Int) else en) = if ok && (en == slot) then 0 else en) := by show _ = _; rw [HOK.out]
    have hTp : Hid ((if dropB ns links en tp slot && (en == slot) then (0 : Int) else tp) = if ok && (en == slot) then 0 else tp) := by show _ = _; rw [HOK.out]
    cases ok with
    | false =>
      have LP17 := plane_load HPT.out.pl
      have SR17 := row_store HPT.out.res (pgL (some ⟨g, 0, none⟩) ns7.length c7 en tp) rfl planeT (by simp [pgL, Value.oneCell'])
      have HFI := Lib.hid (HPT.out.fin (en := en) (tp := tp) HPT.out.res)
      rw [HN7.out] at LP17 SR17 HFI
      obtain ⟨W18, hW18⟩ : ∃ x, w8.setCells (w.heap.size + 1) 0 (pgL (some ⟨g, 0, none⟩) n c7 en tp).toList = x := ⟨_, rfl⟩
      rw [hW18] at SR17 HFI
      clear hW18
      unfold pgL at LP17 SR17
      go_wp2_with (first | ((with_reducible refine wpList_loadE (op := ⟨some 27, _, _, _, _, _⟩) LP17 ?leX ?leG ?leO ?leE ?_); (case leO => exact rfl); (case leE => exact rfl); (case leG => exact rfl)) | refine wpList_storeE SR17 _ _ rfl rfl rfl rfl ?_)
      refine bodyPost_ret (v := .tuple #[.agg (pgL (some ⟨g, 0, none⟩) n c7 en tp), .bool false]) ?_ rfl ⟨g, n, c7, ns7, by rw [hEn.out, hTp.out, HOK.out]; rfl, HFI.out.2.1, by rw [HOK.out]; exact HE7.out, HFI.out.2.2⟩
      exact results_row11 Try.results8 _ rfl HFI.out.1 Try.underlying27 rfl planeT
    | true =>
      have hX := HOK.out
      unfold dropB at hX
      rw [Bool.and_eq_true] at hX
      obtain ⟨hck, hth⟩ := hX
      obtain ⟨ks, rfl, hks⟩ := thB_nat_iff.1 hth
      have hksn : ks < n := by have h1 := (thN_iff.1 hks).2.1; have h2 := HL.out; omega
      obtain ⟨pv, nx, hpv0, hnx0, hpv, hnx⟩ := chk_ring hck hks
      rw [HL.out] at hpv hnx
      have HCK := Lib.hid hck
      have HKS := Lib.hid hks
      have HPV := Lib.hid hpv0
      have HNX := Lib.hid hnx0
      clear hck hth hks hpv0 hnx0
      obtain ⟨d7, hd7⟩ : ∃ d, nAt ns7 ks = d := ⟨_, rfl⟩
      have hg7 := getElem_nAt (ns := ns7) (i := ks) (by rw [HN7.out]; exact hksn)
      rw [hd7] at hg7
      have hEd : (nAt ns ks).norm = d7.norm := by rw [← hd7]; exact HE7.out.nAt ks
      have hr7 : w8.rangeAt g (ks * 7) d7.cells.toList := fun j v hv => HPT.out.own.row.cell (by rw [flat_get2 hg7 j (by have := (List.getElem?_eq_some_iff.1 hv).1; exact this)]; exact hv)
      have LN := node_load hr7
      have SN := node_put w8 d7
      have KT := node_at w8 d7
      have bX := node_bel w8 d7
      obtain ⟨X1, hX1⟩ : ∃ y, (w8.alloc (.cells nd0.cells 49)).setCells w8.heap.size 0 d7.cells.toList = y := ⟨_, rfl⟩
      rw [hX1] at SN KT bX
      rw [nd0_lit] at SN
      obtain ⟨t9, ht9⟩ : ∃ t9, w8.heap.size = t9 := ⟨_, rfl⟩
      have hPX := HPT.out.more bX
      have x0 : w8.cell? ⟨w.heap.size, 0, none⟩ = some (.slice (some ⟨g, 0, none⟩) n c7) := by rw [← HN7.out]; exact HPT.out.pl.cell 0
      have hgt : g < w8.heap.size := HPT.out.own.row.lt
      have hlt : ∀ i, i < n → 0 < (nAt ns7 i).ln → hl i < w8.heap.size := fun i hi h1 => (HPT.out.own.own i _ (getElem_nAt (by rw [HN7.out]; exact hi)) (by rw [HN7.out]; exact hi) h1).2.2.2.2.lt
      have hwp : w.heap.size < w8.heap.size := HPT.out.pl.lt
      have HPX := Lib.hid hPX
      have HKT := Lib.hid KT
      have HED := Lib.hid hEd
      have HD7 := Lib.hid hd7
      have HLT := Lib.hid hlt
      have hp7 : d7.prev = (pv : Int) := by rw [← HPV.out]; exact (congrArg ND.prev hEd).symm
      have hn7 : d7.next = (nx : Int) := by rw [← HNX.out]; exact (congrArg ND.next hEd).symm
      have HT9 : Hid (w.heap.size < t9 ∧ g < t9 ∧ ∀ i, i < n → 0 < (nAt ns7 i).ln → hl i < t9) := by
        show _ ∧ _
        rw [← ht9]
        exact ⟨hwp, hgt, hlt⟩
      have HP7 := Lib.hid hp7
      have HX7 := Lib.hid hn7
      clear hg7 hEd hr7 hX1 bX hPX KT hgt hlt hwp hd7 hp7 hn7
      rw [ht9] at SN HKT
      go_upto_region 6 with (first | refine wpList_loadE LN _ rfl rfl rfl ?_ | refine wpList_storeE SN _ _ rfl rfl rfl rfl ?_)
      clear ht9 LN SN x0
      have hPXd : PtS w X1.drew (w.heap.size + 1) B g c7 en tp W hl ns7 := HPX.out.more (below_drewN (Below.refl _ X1) 1)
      have hx0 : X1.drew.cell? ⟨w.heap.size, 0, none⟩ = some (.slice (some ⟨g, 0, none⟩) n c7) := by rw [← HN7.out]; exact HPX.out.pl.cell 0
      have hx6 : X1.drew.cell? ⟨t9, 6, none⟩ = some (.int .i64 (pv : Int)) := by rw [← HP7.out]; exact HKT.out.cell 6
      have hx5 : X1.drew.cell? ⟨t9, 5, none⟩ = some (.int .i64 (nx : Int)) := by rw [← HX7.out]; exact HKT.out.cell 5
      have S6 := Lib.hid (show X1.drew.cell? ⟨w.heap.size, 0, none⟩ = some (.slice (some ⟨g, 0, none⟩) n c7) ∧ X1.drew.cell? ⟨t9, 6, none⟩ = some (.int .i64 (pv : Int)) ∧ X1.drew.cell? ⟨t9, 5, none⟩ = some (.int .i64 (nx : Int)) from ⟨hx0, hx6, hx5⟩)
      obtain ⟨p1, p2, hP1⟩ := hPXd.next (i := pv) (v := (nx : Int)) (by rw [HN7.out]; exact hpv) (wf_i64 (by omega) (by omega))
      have SR14 : (Instr.storeAt 3 (.pointer (some ⟨g, 0 + pv * 7 + 5, none⟩)) (.int .i64 (nx : Int))).run Try.prog X1.drew = .ok () (X1.drew.setCell ⟨g, pv * 7 + 5, none⟩ (.int .i64 (nx : Int))) := by
        rw [Nat.zero_add]
        simp [go_sem, p1, p2]
      obtain ⟨X2, hX2⟩ : ∃ x, X1.drew.setCell ⟨g, pv * 7 + 5, none⟩ (.int .i64 (nx : Int)) = x := ⟨_, rfl⟩
      have hT9 := HT9.out
      have hgne : g ≠ w.heap.size := by have h1 := HPX.out.own.gB; have h2 := HPX.out.bB; omega
      have hc2 : ∀ (b o : Nat), b ≠ g → X2.cell? ⟨b, o, none⟩ = X1.drew.cell? ⟨b, o, none⟩ := fun b o hb => by rw [← hX2]; exact World.cell?_setCell_far _ _ _ _ (by show g ≠ b; omega)
      rw [hX2] at SR14 hP1
      have SK14 := (show X2.cell? ⟨w.heap.size, 0, none⟩ = some (.slice (some ⟨g, 0, none⟩) n c7) ∧ X2.cell? ⟨t9, 6, none⟩ = some (.int .i64 (pv : Int)) ∧ X2.cell? ⟨t9, 5, none⟩ = some (.int .i64 (nx : Int)) from
        ⟨(hc2 _ _ (by omega)).trans hx0, (hc2 _ _ (by omega)).trans hx6, (hc2 _ _ (by omega)).trans hx5⟩)
      have hl1 : (ns7.set pv { nAt ns7 pv with next := (nx : Int) }).length = n := by rw [List.length_set, HN7.out]
      obtain ⟨p3, p4, hP2⟩ := hP1.prev (i := nx) (v := (pv : Int)) (by rw [hl1]; exact hnx) (wf_i64 (by omega) (by omega))
      have SR17 : (Instr.storeAt 3 (.pointer (some ⟨g, 0 + nx * 7 + 6, none⟩)) (.int .i64 (pv : Int))).run Try.prog X2 = .ok () (X2.setCell ⟨g, nx * 7 + 6, none⟩ (.int .i64 (pv : Int))) := by
        rw [Nat.zero_add]
        simp [go_sem, p3, p4]
      obtain ⟨X3, hX3⟩ : ∃ x, X2.setCell ⟨g, nx * 7 + 6, none⟩ (.int .i64 (pv : Int)) = x := ⟨_, rfl⟩
      have hc3 : ∀ (b o : Nat), b ≠ g → X3.cell? ⟨b, o, none⟩ = X2.cell? ⟨b, o, none⟩ := fun b o hb => by rw [← hX3]; exact World.cell?_setCell_far _ _ _ _ (by show g ≠ b; omega)
      rw [hX3] at SR17 hP2
      have SK17 := (show X3.cell? ⟨w.heap.size, 0, none⟩ = some (.slice (some ⟨g, 0, none⟩) n c7) ∧ X3.cell? ⟨t9, 6, none⟩ = some (.int .i64 (pv : Int)) ∧ X3.cell? ⟨t9, 5, none⟩ = some (.int .i64 (nx : Int)) from
        ⟨(hc3 _ _ (by omega)).trans SK14.1, (hc3 _ _ (by omega)).trans SK14.2.1, (hc3 _ _ (by omega)).trans SK14.2.2⟩)
      have hkt3 : Blk X3 t9 49 d7.cells := by
        rw [← hX3, ← hX2]
        have h1 : Blk X1.drew t9 49 d7.cells := HKT.out
        exact (h1.far (by show t9 ≠ g; omega) _).far (by show t9 ≠ g; omega) _
      have hu2 : (ns7.set pv { nAt ns7 pv with next := (nx : Int) }).set nx { nAt (ns7.set pv { nAt ns7 pv with next := (nx : Int) }) nx with prev := (pv : Int) } = unlinkN ns7 pv nx := rfl
      rw [hu2] at hP2
      have HP2 := Lib.hid hP2
      have HK3 := Lib.hid hkt3
      clear hP2 hP1 hPXd hx0 hx6 hx5 p1 p2 p3 p4 hX2 hX3 hc2 hc3 hl1 hu2 hkt3 HPX HKT hT9 hgne
      refine wp_region_held_drew (S := fun w' => w'.cell? ⟨w.heap.size, 0, none⟩ = some (.slice (some ⟨g, 0, none⟩) n c7) ∧ w'.cell? ⟨t9, 6, none⟩ = some (.int .i64 (pv : Int)) ∧ w'.cell? ⟨t9, 5, none⟩ = some (.int .i64 (nx : Int))) (by kernel_rfl) S6.out (fun hH => ?_)
      refine wpAnyH_take (i := 0) (v := .pointer (some ⟨w.heap.size, 0, none⟩)) rfl (by kernel_rfl) (by kernel_rfl) (by kernel_rfl) (fun _ _ _ h => h) (.inl ⟨by rfl, fun _ _ => by kernel_rfl⟩) hH ?_
      (try simp only [List.getElem_toArray, List.getElem_cons_zero, Act.put, List.setIfInBounds_toArray, List.set_cons_zero, List.set_cons_succ])
      refine wpAnyH_take (i := 1) (v := .slice (some ⟨g, 0, none⟩) n c7) rfl (by kernel_rfl) (by kernel_rfl) (by kernel_rfl) (fun _ _ _ h => h) (yieldsIf_loadP (by rfl) _ rfl rfl (fun _ q => load_nodes q.1)) hH ?_
      (try simp only [List.getElem_toArray, List.getElem_cons_zero, List.getElem_cons_succ, Act.put, List.setIfInBounds_toArray, List.set_cons_zero, List.set_cons_succ])
      refine wpAnyH_take (i := 2) (v := .pointer (some ⟨t9, 6, none⟩)) rfl (by kernel_rfl) (by kernel_rfl) (by kernel_rfl) (fun _ _ _ h => h) (.inl ⟨by rfl, fun _ _ => by kernel_rfl⟩) hH ?_
      (try simp only [List.getElem_toArray, List.getElem_cons_zero, List.getElem_cons_succ, Act.put, List.setIfInBounds_toArray, List.set_cons_zero, List.set_cons_succ])
      refine wpAnyH_take (i := 3) (v := .int .i64 (pv : Int)) rfl (by kernel_rfl) (by kernel_rfl) (by kernel_rfl) (fun _ _ _ h => h) (yieldsIf_loadP (by rfl) _ rfl rfl (fun _ q => load_i64 q.2.1)) hH ?_
      (try simp only [List.getElem_toArray, List.getElem_cons_zero, List.getElem_cons_succ, Act.put, List.setIfInBounds_toArray, List.set_cons_zero, List.set_cons_succ])
      refine wpAnyH_take (i := 4) (v := .pointer (some ⟨w.heap.size, 0, none⟩)) rfl (by kernel_rfl) (by kernel_rfl) (by kernel_rfl) (fun _ _ _ h => h) (.inl ⟨by rfl, fun _ _ => by kernel_rfl⟩) hH ?_
      (try simp only [List.getElem_toArray, List.getElem_cons_zero, List.getElem_cons_succ, Act.put, List.setIfInBounds_toArray, List.set_cons_zero, List.set_cons_succ])
      refine wpAnyH_take (i := 5) (v := .slice (some ⟨g, 0, none⟩) n c7) rfl (by kernel_rfl) (by kernel_rfl) (by kernel_rfl) (fun _ _ _ h => h) (yieldsIf_loadP (by rfl) _ rfl rfl (fun _ q => load_nodes q.1)) hH ?_
      (try simp only [List.getElem_toArray, List.getElem_cons_zero, List.getElem_cons_succ, Act.put, List.setIfInBounds_toArray, List.set_cons_zero, List.set_cons_succ])
      refine wpAnyH_take (i := 6) (v := .pointer (some ⟨t9, 5, none⟩)) rfl (by kernel_rfl) (by kernel_rfl) (by kernel_rfl) (fun _ _ _ h => h) (.inl ⟨by rfl, fun _ _ => by kernel_rfl⟩) hH ?_
      (try simp only [List.getElem_toArray, List.getElem_cons_zero, List.getElem_cons_succ, Act.put, List.setIfInBounds_toArray, List.set_cons_zero, List.set_cons_succ])
      refine wpAnyH_take (i := 7) (v := .int .i64 (nx : Int)) rfl (by kernel_rfl) (by kernel_rfl) (by kernel_rfl) (fun _ _ _ h => h) (yieldsIf_loadP (by rfl) _ rfl rfl (fun _ q => load_i64 q.2.2)) hH ?_
      (try simp only [List.getElem_toArray, List.getElem_cons_zero, List.getElem_cons_succ, Act.put, List.setIfInBounds_toArray, List.set_cons_zero, List.set_cons_succ])
      refine wpAnyH_take (i := 8) (v := .pointer (some ⟨t9, 5, none⟩)) rfl (by kernel_rfl) (by kernel_rfl) (by kernel_rfl) (fun _ _ _ h => h) (.inl ⟨by rfl, fun _ _ => by kernel_rfl⟩) hH ?_
      (try simp only [List.getElem_toArray, List.getElem_cons_zero, List.getElem_cons_succ, Act.put, List.setIfInBounds_toArray, List.set_cons_zero, List.set_cons_succ])
      refine wpAnyH_take (i := 9) (v := .int .i64 (nx : Int)) rfl (by kernel_rfl) (by kernel_rfl) (by kernel_rfl) (fun _ _ _ h => h) (yieldsIf_loadP (by rfl) _ rfl rfl (fun _ q => load_i64 q.2.2)) hH ?_
      (try simp only [List.getElem_toArray, List.getElem_cons_zero, List.getElem_cons_succ, Act.put, List.setIfInBounds_toArray, List.set_cons_zero, List.set_cons_succ])
      refine wpAnyH_take (i := 10) (v := .pointer (some ⟨t9, 6, none⟩)) rfl (by kernel_rfl) (by kernel_rfl) (by kernel_rfl) (fun _ _ _ h => h) (.inl ⟨by rfl, fun _ _ => by kernel_rfl⟩) hH ?_
      (try simp only [List.getElem_toArray, List.getElem_cons_zero, List.getElem_cons_succ, Act.put, List.setIfInBounds_toArray, List.set_cons_zero, List.set_cons_succ])
      refine wpAnyH_take (i := 11) (v := .int .i64 (pv : Int)) rfl (by kernel_rfl) (by kernel_rfl) (by kernel_rfl) (fun _ _ _ h => h) (yieldsIf_loadP (by rfl) _ rfl rfl (fun _ q => load_i64 q.2.1)) hH ?_
      (try simp only [List.getElem_toArray, List.getElem_cons_zero, List.getElem_cons_succ, Act.put, List.setIfInBounds_toArray, List.set_cons_zero, List.set_cons_succ])
      refine wpAnyH_take (i := 12) (v := .pointer (some ⟨g, 0 + pv * 7, none⟩)) rfl (by kernel_rfl) (by kernel_rfl) (by kernel_rfl) (fun _ _ _ h => h) (yieldsIf_index Try.underlying25 sz_node (by rfl) _ _ rfl rfl rfl hpv) hH ?_
      (try simp only [List.getElem_toArray, List.getElem_cons_zero, List.getElem_cons_succ, Act.put, List.setIfInBounds_toArray, List.set_cons_zero, List.set_cons_succ])
      refine wpAnyH_take (i := 13) (v := .pointer (some ⟨g, 0 + pv * 7 + 5, none⟩)) rfl (by kernel_rfl) (by kernel_rfl) (by kernel_rfl) (fun _ _ _ h => h) (.inl ⟨by rfl, fun _ _ => by kernel_rfl⟩) hH ?_
      (try simp only [List.getElem_toArray, List.getElem_cons_zero, List.getElem_cons_succ, Act.put, List.setIfInBounds_toArray, List.set_cons_zero, List.set_cons_succ])
      refine wpAnyH_store 14 _ _ _ (by kernel_rfl) (by rfl) (by kernel_rfl) (by rfl) (by rfl) (by rfl) (SR14) (SK14) ?_
      (try simp only [List.getElem_toArray, List.getElem_cons_succ, Act.put, List.setIfInBounds_toArray])
      refine wpAnyH_take (i := 15) (v := .pointer (some ⟨g, 0 + nx * 7, none⟩)) rfl (by kernel_rfl) (by kernel_rfl) (by kernel_rfl) (fun _ _ _ h => h) (yieldsIf_index Try.underlying25 sz_node (by rfl) _ _ rfl rfl rfl hnx) SK14 ?_
      (try simp only [List.getElem_toArray, List.getElem_cons_zero, List.getElem_cons_succ, Act.put, List.setIfInBounds_toArray, List.set_cons_zero, List.set_cons_succ])
      refine wpAnyH_take (i := 16) (v := .pointer (some ⟨g, 0 + nx * 7 + 6, none⟩)) rfl (by kernel_rfl) (by kernel_rfl) (by kernel_rfl) (fun _ _ _ h => h) (.inl ⟨by rfl, fun _ _ => by kernel_rfl⟩) SK14 ?_
      (try simp only [List.getElem_toArray, List.getElem_cons_zero, List.getElem_cons_succ, Act.put, List.setIfInBounds_toArray, List.set_cons_zero, List.set_cons_succ])
      refine wpAnyH_store 17 _ _ _ (by kernel_rfl) (by rfl) (by kernel_rfl) (by rfl) (by rfl) (by rfl) (SR17) (SK17) ?_
      refine wpAnyH_done (by kernel_rfl) ?_ _
      clear hH SK14 SK17 SR14 SR17 S6
      have y4 : X3.cell? ⟨t9, 4, none⟩ = some (.slice d7.LA d7.ln d7.lc) := HK3.out.cell 4
      go_upto_region 7 with fail
      obtain ⟨lA7, hlA7⟩ : ∃ x, d7.LA = x := ⟨_, rfl⟩
      obtain ⟨ln7, hln7⟩ : ∃ x, d7.ln = x := ⟨_, rfl⟩
      obtain ⟨lc7, hlc7⟩ : ∃ x, d7.lc = x := ⟨_, rfl⟩
      rw [hlA7, hln7, hlc7] at y4
      have HLA7 := Lib.hid hlA7
      have HLN7 := Lib.hid hln7
      have hln8 : ln7 ≤ 1048576 := by
        have := (HP2.out.own.nd ks _ (getElem_nAt (by rw [unlink_len, HN7.out]; exact hksn))).2.2.1
        rw [(unlink_ls ns7 pv nx ks).2, HD7.out, hln7] at this
        exact this
      have HLO : Hid (0 < ln7 → lA7 = some ⟨hl ks, 0, none⟩) := by
        intro h
        have hm := getElem_nAt (ns := unlinkN ns7 pv nx) (i := ks) (by rw [unlink_len, HN7.out]; exact hksn)
        have h1 := (HPT.out.own.own ks _ (getElem_nAt (ns := ns7) (by rw [HN7.out]; exact hksn)) (by rw [HN7.out]; exact hksn) (by rw [HD7.out, HLN7.out]; exact h)).1
        rw [HD7.out, HLA7.out] at h1
        exact h1
      clear hlA7 hln7 hlc7
      go_wp2_with fail
      clear y4
      go_loopw [52] (fun s52 wr => ∃ k : Nat, k ≤ ln7 ∧ s52 = .int .i64 k ∧ Hid (∃ nsX, PtS w wr (w.heap.size + 1) B g c7 en tp W hl nsX ∧ Eqv (dropL ks (nAt ns ks) (unlinkN ns pv nx) k) nsX ∧ nAt nsX ks = nAt (unlinkN ns7 pv nx) ks ∧ Blk wr t9 49 d7.cells)) (fun s52 _ => ln7 - (intOf s52).toNat)
      case atStart => exact ⟨0, Nat.zero_le _, rfl, Lib.hid ⟨_, HP2.out, unlink_eqv HE7.out pv nx, rfl, HK3.out⟩⟩
      case round =>
        obtain ⟨k, hk, rfl, hs⟩ := hrel
        obtain ⟨nsX, q1, q2, q3, q4⟩ := hs.out
        have HQ1 := Lib.hid q1
        have HQ2 := Lib.hid q2
        have HQ3 := Lib.hid q3
        have HQ4 := Lib.hid q4
        have hlx : nsX.length = n := by rw [← q2.len, dropL_len, unlink_len, HL.out]
        have HLX := Lib.hid hlx
        clear hs q1 q2 q3 q4 hlx
        by_cases hlk : k < ln7
        · have hlo := HLO.out (by omega)
          subst hlo
          have hksx : ks < nsX.length := by rw [HLX.out]; exact hksn
          have hlsX : (nAt nsX ks).ls = d7.ls ∧ (nAt nsX ks).ln = ln7 := by
            rw [HQ3.out, (unlink_ls ns7 pv nx ks).1, (unlink_ls ns7 pv nx ks).2, HD7.out, HLN7.out]
            exact ⟨rfl, rfl⟩
          obtain ⟨_, _, _, _, hrw⟩ := HQ1.out.own.own ks _ (getElem_nAt hksx) hksx (by omega)
          have hda := HQ1.out.own.node (getElem_nAt hksx)
          obtain ⟨_, _, _, _, _, hla⟩ := nd_list hda (i := k) (by omega)
          have hlen := hda.len
          have hlg : (nAt nsX ks).ls[k]? = some (lsAt (nAt nsX ks) k) := by
            unfold lsAt
            rw [List.getD_eq_getElem?_getD, List.getElem?_eq_getElem (by omega)]; rfl
          have xk : wr.cell? ⟨hl ks, k, none⟩ = some (lsAt (nAt nsX ks) k).v := hrw.cell (by rw [List.getElem?_map, hlg]; rfl)
          have hxsE : (lsAt (nAt nsX ks) k).xs = (lsAt (nAt ns ks) k).xs := by
            have e1 : lsAt (nAt nsX ks) k = lsAt d7 k := by unfold lsAt; rw [hlsX.1]
            rw [e1, ← lsAt_norm d7 k, ← HED.out, lsAt_norm]
          have HLN : Hid ((nAt ns ks).ln = ln7) := by show _ = _; rw [← HLN7.out]; exact (show (nAt ns ks).norm.ln = d7.norm.ln from congrArg ND.ln HED.out)
          obtain ⟨l, hl9⟩ : ∃ l, lsAt (nAt nsX ks) k = l := ⟨_, rfl⟩
          rw [hl9] at xk hla hxsE
          have HL9 : Hid (lsAt (nAt (unlinkN ns7 pv nx) ks) k = l) := by show _ = _; rw [← HQ3.out]; exact hl9
          obtain ⟨lA, lnn, lc, xs⟩ := l
          have hlnn : lnn ≤ 1048576 := hla.2.1
          have HXL : Hid (xs.length = lnn) := hla.len
          have HXE := Lib.hid hxsE
          change wr.cell? ⟨hl ks, k, none⟩ = some (.slice lA lnn lc) at xk
          clear hlsX hrw hda hla hlen hlg hxsE hl9 hksx
          go_wp2_with fail
          clear xk
          obtain ⟨wo, rfl⟩ : ∃ wo : World, wo = wr := ⟨_, rfl⟩
          go_loopw [59] (fun s59 wr => ∃ i : Nat, i ≤ lnn ∧ s59 = .int .i64 i ∧ Hid (∃ nsY, PtS w wr (w.heap.size + 1) B g c7 en tp W hl nsY ∧ Eqv ((xs.take i).foldl (dropX ks k) (dropL ks (nAt ns ks) (unlinkN ns pv nx) k)) nsY ∧ nAt nsY ks = nAt (unlinkN ns7 pv nx) ks ∧ Blk wr t9 49 d7.cells)) (fun s59 _ => lnn - (intOf s59).toNat)
          case atStart => exact ⟨0, Nat.zero_le _, rfl, Lib.hid ⟨_, HQ1.out, HQ2.out, HQ3.out, HQ4.out⟩⟩
          case round =>
            obtain ⟨i, hi, rfl, hs⟩ := hrel
            obtain ⟨nsY, r1, r2, r3, r4⟩ := hs.out
            have HR1 := Lib.hid r1
            have HR2 := Lib.hid r2
            have HR3 := Lib.hid r3
            have HR4 := Lib.hid r4
            have HLY : Hid (nsY.length = n) := by show _ = _; rw [← r2.len, foldX_len, dropL_len, unlink_len, HL.out]
            clear hs r1 r2 r3 r4
            by_cases hli : i < lnn
            · have hksy : ks < nsY.length := by rw [HLY.out]; exact hksn
              have hda := HR1.out.own.node (getElem_nAt hksy)
              have hlny : (nAt nsY ks).ln = ln7 := by rw [HR3.out, (unlink_ls ns7 pv nx ks).2, HD7.out, HLN7.out]
              obtain ⟨_, _, _, _, _, hla⟩ := nd_list hda (i := k) (by omega)
              rw [HR3.out, HL9.out] at hla
              obtain ⟨b3, o3, hlA, hb3, hx3⟩ := Rd.atI hla.2.2.1 hli
              have hxi : i < xs.length := by rw [HXL.out]; exact hli
              have hlA : lA = some ⟨b3, o3, none⟩ := hlA
              subst hlA
              obtain ⟨kx, hkx, hkt, hkne, hkln, hkmem⟩ := chk_list HCK.out HKS.out (k := k) (by rw [HLN.out]; exact hlk) (x := ig xs i) (by rw [← HXE.out]; exact ig_mem hxi)
              have hkxn : kx < n := by have h1 := (thN_iff.1 hkt).2.1; have h2 := HL.out; omega
              have hkxy : kx < nsY.length := by rw [HLY.out]; exact hkxn
              change wr.cell? ⟨b3, o3 + i, none⟩ = some (.int .i64 (ig xs i)) at hx3
              rw [hkx] at hx3
              obtain ⟨LK, hLK⟩ : ∃ x, (xs.take i).foldl (dropX ks k) (dropL ks (nAt ns ks) (unlinkN ns pv nx) k) = x := ⟨_, rfl⟩
              have hEY := HR2.out
              have hln2 : (nAt LK kx).ln = (nAt ns kx).ln := by rw [← hLK, foldX_ln, dropL_ln, (unlink_ls ns pv nx kx).2]
              rw [hLK] at hEY
              have hlnY : (nAt nsY kx).ln = (nAt ns kx).ln := by rw [← hln2]; exact (congrArg ND.ln (hEY.nAt kx)).symm
              obtain ⟨e1, _, e3, _, e5⟩ := HR1.out.own.own kx _ (getElem_nAt hkxy) hkxy (by omega)
              have hdx := HR1.out.own.node (getElem_nAt hkxy)
              obtain ⟨_, _, _, _, _, hma⟩ := nd_list hdx (i := k) (by omega)
              have hmx : (nAt nsY kx).ls[k]? = some (lsAt (nAt nsY kx) k) := by
                unfold lsAt
                rw [List.getD_eq_getElem?_getD, List.getElem?_eq_getElem (by have := hdx.len; omega)]; rfl
              have xm : wr.drew.cell? ⟨hl kx, 0 + k * 1, none⟩ = some (lsAt (nAt nsY kx) k).v := by
                rw [Nat.zero_add, Nat.mul_one]
                exact e5.cell (by rw [List.getElem?_map, hmx]; rfl)
              have hmE : (lsAt (nAt LK kx) k).xs = (lsAt (nAt nsY kx) k).xs := by
                rw [← lsAt_norm (nAt LK kx) k, hEY.nAt kx, lsAt_norm]
              obtain ⟨lnx, hlnx⟩ : ∃ x, (nAt nsY kx).ln = x := ⟨_, rfl⟩
              obtain ⟨lcx, hlcx⟩ : ∃ x, (nAt nsY kx).lc = x := ⟨_, rfl⟩
              have hklx : k < lnx := by omega
              have xad : wr.drew.cell? ⟨g, 0 + kx * 7 + 4, none⟩ = some (.slice (some ⟨hl kx, 0, none⟩) lnx lcx) := by
                have := HR1.out.own.row.cell (flat_get2 (getElem_nAt hkxy) 4 (by decide))
                rw [Nat.zero_add, ← e1, ← hlcx, ← hlnx]
                exact this
              have x0d : wr.drew.cell? ⟨w.heap.size, 0, none⟩ = some (.slice (some ⟨g, 0, none⟩) n c7) := by rw [← HLY.out]; exact HR1.out.pl.cell 0
              have hFA : w.heap.size < g ∧ g < wr.heap.size ∧ w.heap.size < wr.heap.size ∧ hl kx ≠ g ∧ w.heap.size < hl kx ∧ hl kx < t9 := by
                have h1 := HR1.out.own.gB
                have h2 := HR1.out.bB
                have h3 := HR1.out.own.row.lt
                refine ⟨by omega, h3, by omega, e3.1, by omega, HT9.out.2.2 kx hkxn ?_⟩
                have : (nAt ns7 kx).ln = (nAt ns kx).ln := (congrArg ND.ln (HE7.out.nAt kx)).symm
                omega
              obtain ⟨m, hm⟩ : ∃ m, lsAt (nAt nsY kx) k = m := ⟨_, rfl⟩
              rw [hm] at xm hma hmE
              obtain ⟨mA, mn, mc, ms⟩ := m
              have hmn : mn ≤ 1048576 := hma.2.1
              have HMS : Hid (ms.length = mn) := hma.len
              have hMA := hma.1
              change mA = none → mn = 0 ∧ mc = 0 at hMA
              change wr.drew.cell? ⟨hl kx, 0 + k * 1, none⟩ = some (.slice mA mn mc) at xm
              have HWI := Lib.hid (fun (Z : World) (hZ : Below wr.drew.heap.size wr.drew Z) => eg_without mA mn mc ms ks Z ((hma.2.2.1.below ((below_drewN (Below.refl _ wr) 1).trans hZ)).more hZ.size) hMA hmn)
              have HSA := Lib.hid (fun (Z : World) (A9 : Option Addr) (n9 c9 : Nat) (hb : Below wr.drew.heap.size wr.drew Z) (ho : OwnI Z wr.drew.heap.size A9 n9 c9 (withoutI ms ks)) =>
                HR1.out.setList (Z := Z) ((below_drewN (Below.refl _ wr) 1).trans hb) (i := kx) (k := k) hkxy (by omega) ho (by have h1 := ho.len; have h2 := without_len ms (ks : Int); have h3 := HMS.out; omega) (without_wf hma.2.2.2))
              have HDA := Lib.hid (show wr.drew.cell? ⟨w.heap.size, 0, none⟩ = some (.slice (some ⟨g, 0, none⟩) n c7) ∧ wr.drew.cell? ⟨g, 0 + kx * 7 + 4, none⟩ = some (.slice (some ⟨hl kx, 0, none⟩) lnx lcx) from ⟨x0d, xad⟩)
              have HXM := Lib.hid xm
              have HFA := Lib.hid hFA
              have HME := Lib.hid hmE
              have HLK := Lib.hid hLK
              have HEY := Lib.hid hEY
              have HKX := Lib.hid hkx
              clear hda hlny hla hln2 hlnY e1 e3 e5 hdx hma hmx xm hmE hlnx hlcx xad x0d hFA hm hMA hLK hEY hkx hkt hkmem hkln hksy
              go_upto_region 13 with fail
              refine wp_region_held_drew (S := fun w' => w'.cell? ⟨w.heap.size, 0, none⟩ = some (.slice (some ⟨g, 0, none⟩) n c7) ∧ w'.cell? ⟨g, 0 + kx * 7 + 4, none⟩ = some (.slice (some ⟨hl kx, 0, none⟩) lnx lcx)) (by kernel_rfl) HDA.out (fun hH => ?_)
              refine wpAnyH_take (i := 0) (v := .pointer (some ⟨w.heap.size, 0, none⟩)) rfl (by kernel_rfl) (by kernel_rfl) (by kernel_rfl) (fun _ _ _ h => h) (.inl ⟨by rfl, fun _ _ => by kernel_rfl⟩) hH ?_
              (try simp only [List.getElem_toArray, List.getElem_cons_zero, Act.put, List.setIfInBounds_toArray, List.set_cons_zero, List.set_cons_succ])
              refine wpAnyH_take (i := 1) (v := .slice (some ⟨g, 0, none⟩) n c7) rfl (by kernel_rfl) (by kernel_rfl) (by kernel_rfl) (fun _ _ _ h => h) (yieldsIf_loadP (by rfl) _ rfl rfl (fun _ q => load_nodes q.1)) hH ?_
              (try simp only [List.getElem_toArray, List.getElem_cons_zero, List.getElem_cons_succ, Act.put, List.setIfInBounds_toArray, List.set_cons_zero, List.set_cons_succ])
              refine wpAnyH_take (i := 2) (v := .int .i64 (kx : Int)) rfl (by kernel_rfl) (by kernel_rfl) (by kernel_rfl) (fun _ _ _ h => h) (.inl ⟨by rfl, fun _ _ => by kernel_rfl⟩) hH ?_
              (try simp only [List.getElem_toArray, List.getElem_cons_zero, List.getElem_cons_succ, Act.put, List.setIfInBounds_toArray, List.set_cons_zero, List.set_cons_succ])
              refine wpAnyH_take (i := 3) (v := .pointer (some ⟨g, 0 + kx * 7, none⟩)) rfl (by kernel_rfl) (by kernel_rfl) (by kernel_rfl) (fun _ _ _ h => h) (yieldsIf_index Try.underlying25 sz_node (by rfl) _ _ rfl rfl rfl hkxn) hH ?_
              (try simp only [List.getElem_toArray, List.getElem_cons_zero, List.getElem_cons_succ, Act.put, List.setIfInBounds_toArray, List.set_cons_zero, List.set_cons_succ])
              refine wpAnyH_take (i := 4) (v := .pointer (some ⟨g, 0 + kx * 7 + 4, none⟩)) rfl (by kernel_rfl) (by kernel_rfl) (by kernel_rfl) (fun _ _ _ h => h) (.inl ⟨by rfl, fun _ _ => by kernel_rfl⟩) hH ?_
              (try simp only [List.getElem_toArray, List.getElem_cons_zero, List.getElem_cons_succ, Act.put, List.setIfInBounds_toArray, List.set_cons_zero, List.set_cons_succ])
              refine wpAnyH_take (i := 5) (v := .slice (some ⟨hl kx, 0, none⟩) lnx lcx) rfl (by kernel_rfl) (by kernel_rfl) (by kernel_rfl) (fun _ _ _ h => h) (yieldsIf_loadP (by rfl) _ rfl rfl (fun _ q => load_lists q.2)) hH ?_
              (try simp only [List.getElem_toArray, List.getElem_cons_zero, List.getElem_cons_succ, Act.put, List.setIfInBounds_toArray, List.set_cons_zero, List.set_cons_succ])
              refine wpAnyH_take (i := 6) (v := .int .i64 (k : Int)) rfl (by kernel_rfl) (by kernel_rfl) (by kernel_rfl) (fun _ _ _ h => h) (.inl ⟨by rfl, fun _ _ => by kernel_rfl⟩) hH ?_
              (try simp only [List.getElem_toArray, List.getElem_cons_zero, List.getElem_cons_succ, Act.put, List.setIfInBounds_toArray, List.set_cons_zero, List.set_cons_succ])
              refine wpAnyH_take (i := 7) (v := .pointer (some ⟨w.heap.size, 0, none⟩)) rfl (by kernel_rfl) (by kernel_rfl) (by kernel_rfl) (fun _ _ _ h => h) (.inl ⟨by rfl, fun _ _ => by kernel_rfl⟩) hH ?_
              (try simp only [List.getElem_toArray, List.getElem_cons_zero, List.getElem_cons_succ, Act.put, List.setIfInBounds_toArray, List.set_cons_zero, List.set_cons_succ])
              refine wpAnyH_take (i := 8) (v := .slice (some ⟨g, 0, none⟩) n c7) rfl (by kernel_rfl) (by kernel_rfl) (by kernel_rfl) (fun _ _ _ h => h) (yieldsIf_loadP (by rfl) _ rfl rfl (fun _ q => load_nodes q.1)) hH ?_
              (try simp only [List.getElem_toArray, List.getElem_cons_zero, List.getElem_cons_succ, Act.put, List.setIfInBounds_toArray, List.set_cons_zero, List.set_cons_succ])
              refine wpAnyH_take (i := 9) (v := .int .i64 (kx : Int)) rfl (by kernel_rfl) (by kernel_rfl) (by kernel_rfl) (fun _ _ _ h => h) (.inl ⟨by rfl, fun _ _ => by kernel_rfl⟩) hH ?_
              (try simp only [List.getElem_toArray, List.getElem_cons_zero, List.getElem_cons_succ, Act.put, List.setIfInBounds_toArray, List.set_cons_zero, List.set_cons_succ])
              refine wpAnyH_take (i := 10) (v := .pointer (some ⟨g, 0 + kx * 7, none⟩)) rfl (by kernel_rfl) (by kernel_rfl) (by kernel_rfl) (fun _ _ _ h => h) (yieldsIf_index Try.underlying25 sz_node (by rfl) _ _ rfl rfl rfl hkxn) hH ?_
              (try simp only [List.getElem_toArray, List.getElem_cons_zero, List.getElem_cons_succ, Act.put, List.setIfInBounds_toArray, List.set_cons_zero, List.set_cons_succ])
              refine wpAnyH_take (i := 11) (v := .pointer (some ⟨g, 0 + kx * 7 + 4, none⟩)) rfl (by kernel_rfl) (by kernel_rfl) (by kernel_rfl) (fun _ _ _ h => h) (.inl ⟨by rfl, fun _ _ => by kernel_rfl⟩) hH ?_
              (try simp only [List.getElem_toArray, List.getElem_cons_zero, List.getElem_cons_succ, Act.put, List.setIfInBounds_toArray, List.set_cons_zero, List.set_cons_succ])
              refine wpAnyH_take (i := 12) (v := .slice (some ⟨hl kx, 0, none⟩) lnx lcx) rfl (by kernel_rfl) (by kernel_rfl) (by kernel_rfl) (fun _ _ _ h => h) (yieldsIf_loadP (by rfl) _ rfl rfl (fun _ q => load_lists q.2)) hH ?_
              (try simp only [List.getElem_toArray, List.getElem_cons_zero, List.getElem_cons_succ, Act.put, List.setIfInBounds_toArray, List.set_cons_zero, List.set_cons_succ])
              refine wpAnyH_take (i := 13) (v := .int .i64 (k : Int)) rfl (by kernel_rfl) (by kernel_rfl) (by kernel_rfl) (fun _ _ _ h => h) (.inl ⟨by rfl, fun _ _ => by kernel_rfl⟩) hH ?_
              (try simp only [List.getElem_toArray, List.getElem_cons_zero, List.getElem_cons_succ, Act.put, List.setIfInBounds_toArray, List.set_cons_zero, List.set_cons_succ])
              refine wpAnyH_take (i := 14) (v := .pointer (some ⟨hl kx, 0 + k * 1, none⟩)) rfl (by kernel_rfl) (by kernel_rfl) (by kernel_rfl) (fun _ _ _ h => h) (yieldsIf_index Try.underlying47 sz_list (by rfl) _ _ rfl rfl rfl hklx) hH ?_
              (try simp only [List.getElem_toArray, List.getElem_cons_zero, List.getElem_cons_succ, Act.put, List.setIfInBounds_toArray, List.set_cons_zero, List.set_cons_succ])
              refine wpAnyH_take (i := 16) (v := .int .i64 (ks : Int)) rfl (by kernel_rfl) (by kernel_rfl) (by kernel_rfl) (fun _ _ _ h => h) (.inl ⟨by rfl, fun _ _ => by kernel_rfl⟩) hH ?_
              (try simp only [List.getElem_toArray, List.getElem_cons_zero, List.getElem_cons_succ, Act.put, List.setIfInBounds_toArray, List.set_cons_zero, List.set_cons_succ])
              refine wpAnyH_value 15 (.slice mA mn mc) (by kernel_rfl) (by rfl) (by kernel_rfl) (exec_load (by rfl) (by rfl) (load_ints HXM.out)) hH ?_
              (try simp only [List.getElem_toArray, List.getElem_cons_zero, List.getElem_cons_succ, Act.put, List.setIfInBounds_toArray, List.set_cons_zero, List.set_cons_succ])
              refine wpAnyH_call 17 10 #[.slice mA mn mc, .int .i64 (ks : Int)] _ (by kernel_rfl) (by rfl) (by kernel_rfl) (by kernel_rfl) (HWI.out wr.drew (Below.refl _ _)) ?_
              rintro e Z1 ⟨A9, n9, c9, rfl, ho9, b9⟩
              have hZ : Z1.cell? ⟨w.heap.size, 0, none⟩ = some (.slice (some ⟨g, 0, none⟩) n c7) ∧ Z1.cell? ⟨g, 0 + kx * 7 + 4, none⟩ = some (.slice (some ⟨hl kx, 0, none⟩) lnx lcx) := ⟨(b9.cell (p := ⟨w.heap.size, 0, none⟩) (by show w.heap.size < wr.heap.size; have := HFA.out; omega)).trans HDA.out.1, (b9.cell (p := ⟨g, 0 + kx * 7 + 4, none⟩) (by show g < wr.heap.size; have := HFA.out; omega)).trans HDA.out.2⟩
              refine ⟨_, rfl, hZ, ?_⟩
              (try simp only [List.getElem_toArray, List.getElem_cons_zero, List.getElem_cons_succ, Act.put, List.setIfInBounds_toArray, List.set_cons_zero, List.set_cons_succ])
              refine wpAnyH_take (i := 18) (v := .pointer (some ⟨hl kx, 0 + k * 1, none⟩)) rfl (by kernel_rfl) (by kernel_rfl) (by kernel_rfl) (fun _ _ _ h => h) (yieldsIf_index Try.underlying47 sz_list (by rfl) _ _ rfl rfl rfl hklx) hZ ?_
              (try simp only [List.getElem_toArray, List.getElem_cons_zero, List.getElem_cons_succ, Act.put, List.setIfInBounds_toArray, List.set_cons_zero, List.set_cons_succ])
              obtain ⟨_, ⟨u9, hu9⟩, hf9, hP10⟩ := HSA.out Z1 A9 n9 c9 b9 ho9
              have HO9 := Lib.hid ho9
              have SR9 : (Instr.storeAt 23 (.pointer (some ⟨hl kx, 0 + k * 1, none⟩)) (.slice A9 n9 c9)).run Try.prog Z1 = .ok () (Z1.setCell ⟨hl kx, k, none⟩ (.slice A9 n9 c9)) := by
                rw [Nat.zero_add, Nat.mul_one]
                exact store_ints hu9 hf9
              have SK9 : (Z1.setCell ⟨hl kx, k, none⟩ (.slice A9 n9 c9)).cell? ⟨w.heap.size, 0, none⟩ = some (.slice (some ⟨g, 0, none⟩) n c7) ∧ (Z1.setCell ⟨hl kx, k, none⟩ (.slice A9 n9 c9)).cell? ⟨g, 0 + kx * 7 + 4, none⟩ = some (.slice (some ⟨hl kx, 0, none⟩) lnx lcx) := by
                have h := HFA.out
                rw [World.cell?_setCell_far _ _ _ _ (by show hl kx ≠ w.heap.size; omega), World.cell?_setCell_far _ _ _ _ (by show hl kx ≠ g; omega)]
                exact hZ
              have HK10 : Hid (Blk (Z1.setCell ⟨hl kx, k, none⟩ (.slice A9 n9 c9)) t9 49 d7.cells) := ((show Blk wr.drew t9 49 d7.cells from HR4.out).below b9 HR4.out.lt).far (by show t9 ≠ hl kx; have := HFA.out; omega) _
              obtain ⟨w10, hw10⟩ : ∃ x, Z1.setCell ⟨hl kx, k, none⟩ (.slice A9 n9 c9) = x := ⟨_, rfl⟩
              rw [hw10] at SR9 SK9 hP10 HK10
              clear hw10 ho9 b9 hu9 hf9
              refine wpAnyH_store 19 _ _ _ (by kernel_rfl) (by rfl) (by kernel_rfl) (by rfl) (by rfl) (by rfl) (SR9) (SK9) ?_
              refine wpAnyH_done (by kernel_rfl) ?_ _
              clear hZ SR9 SK9
              have HQ10 : Hid (PtS w w10 (w.heap.size + 1) B g c7 en tp W hl (nsY.set kx { nAt nsY kx with ls := (nAt nsY kx).ls.set k ⟨A9, n9, c9, withoutI ms ks⟩ })) := hP10
              have HE10 : Hid (Eqv ((xs.take (i + 1)).foldl (dropX ks k) (dropL ks (nAt ns ks) (unlinkN ns pv nx) k)) (nsY.set kx { nAt nsY kx with ls := (nAt nsY kx).ls.set k ⟨A9, n9, c9, withoutI ms ks⟩ })) := by
                show Eqv _ _
                rw [take_step hxi, List.foldl_append, HLK.out, HKX.out]
                show Eqv (dropX ks k LK (kx : Int)) _
                unfold dropX
                rw [Int.toNat_natCast, HME.out]
                exact lsSet_eqv HEY.out kx k HO9.out.len
              have HS10 : Hid (nAt (nsY.set kx { nAt nsY kx with ls := (nAt nsY kx).ls.set k ⟨A9, n9, c9, withoutI ms ks⟩ }) ks = nAt (unlinkN ns7 pv nx) ks) := by
                show _ = _
                rw [nAt_set_ne hkne, HR3.out]
              clear hP10 hH HDA HSA HWI HO9 HXM
              go_wp2_with fail
              go_roundw
              case rel => exact ⟨i + 1, by omega, by go_num, Lib.hid ⟨_, HQ10.out, HE10.out, HS10.out, HK10.out⟩⟩
              case measure => simp [intOf]; omega
            · obtain rfl : i = lnn := by omega
              have HE10 : Hid (Eqv (dropL ks (nAt ns ks) (unlinkN ns pv nx) (k + 1)) nsY) := by
                have := HR2.out
                rw [List.take_of_length_le (by rw [HXL.out]; exact Nat.le_refl _)] at this
                show Eqv _ _
                rw [dropL_succ]
                unfold dropK
                rw [← HXE.out]
                exact this
              go_wp2_with fail
              go_roundw
              case rel => exact ⟨k + 1, by omega, by go_num, Lib.hid ⟨_, HR1.out, HE10.out, HR3.out, HR4.out⟩⟩
              case measure => simp [intOf]; omega
        · obtain rfl : k = ln7 := by omega
          have hLN : (nAt ns ks).ln = k := by rw [← HLN7.out]; exact (show (nAt ns ks).norm.ln = d7.norm.ln from congrArg ND.ln HED.out)
          have x0 : wr.cell? ⟨w.heap.size, 0, none⟩ = some (.slice (some ⟨g, 0, none⟩) n c7) := by rw [← HLX.out]; exact HQ1.out.pl.cell 0
          obtain ⟨hth, W', hl', hP14⟩ := HQ1.out.bare (i := ks) (by rw [HLX.out]; exact hksn)
          have SN14 := run_storeAt_mid (P := Try.prog) wr g (ks * 7) 49 ndX.cells hth nodeT (node_one _)
          have hfe : Eqv (dropSt ns ks) (nsX.set ks ndX) := by
            unfold dropSt
            rw [HPV.out, HNX.out, Int.toNat_natCast, Int.toNat_natCast, hLN]
            exact HQ2.out.set ks rfl
          obtain ⟨ns9, hns9⟩ : ∃ x, nsX.set ks ndX = x := ⟨_, rfl⟩
          obtain ⟨W14, hW14⟩ : ∃ x, wr.setCells g (ks * 7) ndX.cells.toList = x := ⟨_, rfl⟩
          rw [hns9] at hP14 hfe
          rw [hW14] at SN14 hP14
          have HN9 : Hid (ns9.length = n) := by show _ = _; rw [← hns9, List.length_set, HLX.out]
          have HP14 := Lib.hid hP14
          have HFE := Lib.hid hfe
          have hndx : ndX.cells = #[.int .u64 0, .slice none 0 0, .int .u64 0, .int .i64 0, .slice none 0 0, .int .i64 (-1), .int .i64 (-1)] := rfl
          rw [hndx] at SN14
          have v1 : W14.cell? ⟨w.heap.size, 1, none⟩ = some (.int .i64 en) := hP14.pl.cell 1
          clear hth hP14 hns9 hW14 hfe hndx hLN HQ1 HQ2 HQ3 HQ4
          cases ee : (en == (ks : Int)) with
          | false =>
            have LP17 := plane_load HP14.out.pl
            have SR17 := row_store HP14.out.res (pgL (some ⟨g, 0, none⟩) ns9.length c7 en tp) rfl planeT (by simp [pgL, Value.oneCell'])
            have HFI := Lib.hid (HP14.out.fin (en := en) (tp := tp) HP14.out.res)
            rw [HN9.out] at LP17 SR17 HFI
            obtain ⟨W18, hW18⟩ : ∃ x, W14.setCells (w.heap.size + 1) 0 (pgL (some ⟨g, 0, none⟩) n c7 en tp).toList = x := ⟨_, rfl⟩
            rw [hW18] at SR17 HFI
            clear hW18
            unfold pgL at LP17 SR17
            go_wp2_with (first | ((with_reducible refine wpList_loadE (op := ⟨some 95, _, _, _, _, _⟩) LP17 ?leX ?leG ?leO ?leE ?_); (case leO => exact rfl); (case leE => exact rfl); (case leG => exact rfl)) | refine wpList_storeE SN14 _ _ rfl rfl rfl rfl ?_ | refine wpList_storeE SR17 _ _ rfl rfl rfl rfl ?_)
            refine bodyPost_ret (v := .tuple #[.agg (pgL (some ⟨g, 0, none⟩) n c7 en tp), .bool true]) ?_ rfl ⟨g, n, c7, ns9, by rw [hEn.out, hTp.out, HOK.out, ee]; rfl, HFI.out.2.1, by rw [HOK.out, if_pos rfl, Int.toNat_natCast]; exact HFE.out, HFI.out.2.2⟩
            exact results_row11 Try.results8 _ rfl HFI.out.1 Try.underlying27 rfl planeT
          | true =>
            obtain ⟨_, w1, v2, w2', hP15⟩ := HP14.out.entry
            obtain ⟨W15, hW15⟩ : ∃ x, (W14.setCell ⟨w.heap.size, 1, none⟩ (.int .i64 0)).setCell ⟨w.heap.size, 2, none⟩ (.int .i64 0) = x := ⟨_, rfl⟩
            rw [hW15] at hP15
            have LP17 := plane_load hP15.pl
            have SR17 := row_store hP15.res (pgL (some ⟨g, 0, none⟩) ns9.length c7 0 0) rfl planeT (by simp [pgL, Value.oneCell'])
            have HFI := Lib.hid (hP15.fin (en := 0) (tp := 0) hP15.res)
            rw [HN9.out] at LP17 SR17 HFI
            obtain ⟨W18, hW18⟩ : ∃ x, W15.setCells (w.heap.size + 1) 0 (pgL (some ⟨g, 0, none⟩) n c7 0 0).toList = x := ⟨_, rfl⟩
            rw [hW18] at SR17 HFI
            have HW15 := Lib.hid hW15
            clear hW18 hP15 hW15
            unfold pgL at LP17 SR17
            go_upto_region 19 with (refine wpList_storeE SN14 _ _ rfl rfl rfl rfl ?_)
            simp only [HW15.out]
            clear v1 v2 w1 w2'
            go_wp2_with (first | ((with_reducible refine wpList_loadE (op := ⟨some 95, _, _, _, _, _⟩) LP17 ?leX ?leG ?leO ?leE ?_); (case leO => exact rfl); (case leE => exact rfl); (case leG => exact rfl)) | refine wpList_storeE SR17 _ _ rfl rfl rfl rfl ?_)
            refine bodyPost_ret (v := .tuple #[.agg (pgL (some ⟨g, 0, none⟩) n c7 0 0), .bool true]) ?_ rfl ⟨g, n, c7, ns9, by rw [hEn.out, hTp.out, HOK.out, ee]; rfl, HFI.out.2.1, by rw [HOK.out, if_pos rfl, Int.toNat_natCast]; exact HFE.out, HFI.out.2.2⟩
            exact results_row11 Try.results8 _ rfl HFI.out.1 Try.underlying27 rfl planeT
theorem nm_id {d d' : ND} (h : d.norm = d'.norm) : d.id = d'.id := by have e := congrArg ND.id h; exact e
theorem nm_next {d d' : ND} (h : d.norm = d'.norm) : d.next = d'.next := by have e := congrArg ND.next h; exact e
theorem nm_prev {d d' : ND} (h : d.norm = d'.norm) : d.prev = d'.prev := by have e := congrArg ND.prev h; exact e
theorem nm_level {d d' : ND} (h : d.norm = d'.norm) : d.level = d'.level := by have e := congrArg ND.level h; exact e
theorem nm_ln {d d' : ND} (h : d.norm = d'.norm) : d.ln = d'.ln := by have e := congrArg ND.ln h; exact e
section
variable {ns ns' : List ND}
theorem Eqv.id_ (h : Eqv ns ns') (x : Int) : idI ns x = idI ns' x := nm_id (h.nAt x.toNat)
theorem Eqv.hasId (h : Eqv ns ns') (id : Int) : hasId ns id = Proofs.Ytckclflbcgblaaa.hasId ns' id := by
  unfold Proofs.Ytckclflbcgblaaa.hasId
  rw [h.live]
  exact List.any_congr rfl fun x => by rw [h.id_]
theorem Eqv.putW (h : Eqv ns ns') (links en tp level id : Int) : putW ns links en tp level id = Proofs.Ytckclflbcgblaaa.putW ns' links en tp level id := by
  unfold Proofs.Ytckclflbcgblaaa.putW
  rw [h.chk, h.hasId, h.live]
theorem Eqv.slot (h : Eqv ns ns') : slotI ns = slotI ns' := by unfold slotI slotJ; rw [h.live]
theorem Eqv.putND (h : Eqv ns ns') (id : Int) (vn : Nat) (vxs : List Int) (tags level : Int) : putND ns id vn vxs tags level = Proofs.Ytckclflbcgblaaa.putND ns' id vn vxs tags level := by
  unfold Proofs.Ytckclflbcgblaaa.putND
  rw [show (Proofs.Ytckclflbcgblaaa.nAt ns 0).next = (Proofs.Ytckclflbcgblaaa.nAt ns' 0).next from nm_next (h.nAt 0)]
theorem Eqv.grow (h : Eqv ns ns') (slot : Nat) : Eqv (growN ns slot) (growN ns' slot) := by
  unfold growN
  rw [h.len]
  split
  · unfold Eqv at h ⊢
    rw [List.map_append, List.map_append, h]
  · exact h
theorem Eqv.putSt (h : Eqv ns ns') (slot : Nat) (d : ND) : Eqv (putSt ns slot d) (Proofs.Ytckclflbcgblaaa.putSt ns' slot d) := by
  unfold Proofs.Ytckclflbcgblaaa.putSt
  rw [show (Proofs.Ytckclflbcgblaaa.nAt ns 0).next = (Proofs.Ytckclflbcgblaaa.nAt ns' 0).next from nm_next (h.nAt 0)]
  exact linkN_eqv ((h.grow slot).set slot rfl) _ _
theorem Eqv.ls (h : Eqv ns ns') (i k : Nat) : (lsAt (Proofs.Ytckclflbcgblaaa.nAt ns i) k).xs = (lsAt (Proofs.Ytckclflbcgblaaa.nAt ns' i) k).xs := by rw [← lsAt_norm (Proofs.Ytckclflbcgblaaa.nAt ns i) k, h.nAt i, lsAt_norm]
theorem lsSet_eqv2 (h : Eqv ns ns') (i k : Nat) (xs : List Int) : Eqv (lsSet ns i k xs) (lsSet ns' i k xs) := lsSet_eqv h i k rfl
theorem Eqv.linkB (h : Eqv ns ns') (links en tp a b level : Int) : linkB ns links en tp a b level = Proofs.Ytckclflbcgblaaa.linkB ns' links en tp a b level := by
  unfold Proofs.Ytckclflbcgblaaa.linkB
  rw [h.chk, h.thB, h.thB, h.ls, h.ls, show (Proofs.Ytckclflbcgblaaa.nAt ns a.toNat).level = (Proofs.Ytckclflbcgblaaa.nAt ns' a.toNat).level from nm_level (h.nAt _), show (Proofs.Ytckclflbcgblaaa.nAt ns b.toNat).level = (Proofs.Ytckclflbcgblaaa.nAt ns' b.toNat).level from nm_level (h.nAt _)]
theorem Eqv.linkSt (h : Eqv ns ns') (a b k : Nat) : Eqv (linkSt ns a b k) (Proofs.Ytckclflbcgblaaa.linkSt ns' a b k) := by
  unfold Proofs.Ytckclflbcgblaaa.linkSt
  rw [h.ls, h.ls]
  exact lsSet_eqv2 (lsSet_eqv2 h _ _ _) _ _ _
theorem Eqv.dropB (h : Eqv ns ns') (links en tp slot : Int) : dropB ns links en tp slot = Proofs.Ytckclflbcgblaaa.dropB ns' links en tp slot := by unfold Proofs.Ytckclflbcgblaaa.dropB; rw [h.chk, h.thB]
theorem dropX_eqv (h : Eqv ns ns') (slot k : Nat) (x : Int) : Eqv (dropX slot k ns x) (dropX slot k ns' x) := by
  unfold dropX
  rw [h.ls]
  exact lsSet_eqv2 h _ _ _
theorem foldX_eqv (slot k : Nat) : ∀ (xs : List Int) {l l' : List ND}, Eqv l l' → Eqv (xs.foldl (dropX slot k) l) (xs.foldl (dropX slot k) l')
  | [], _, _, h => h
  | x :: xs, _, _, h => by rw [List.foldl_cons, List.foldl_cons]; exact foldX_eqv slot k xs (dropX_eqv h slot k x)
theorem dropL_eqv {d d' : ND} (hd : d.norm = d'.norm) (h : Eqv ns ns') (slot : Nat) : ∀ m, Eqv (dropL slot d ns m) (dropL slot d' ns' m)
  | 0 => h
  | m + 1 => by
    rw [dropL_succ, dropL_succ]
    unfold dropK
    rw [show (lsAt d m).xs = (lsAt d' m).xs by rw [← lsAt_norm d m, hd, lsAt_norm]]
    exact foldX_eqv slot m _ (dropL_eqv hd h slot m)
theorem Eqv.dropSt (h : Eqv ns ns') (slot : Nat) : Eqv (dropSt ns slot) (Proofs.Ytckclflbcgblaaa.dropSt ns' slot) := by
  unfold Proofs.Ytckclflbcgblaaa.dropSt
  have hn := h.nAt slot
  rw [show (Proofs.Ytckclflbcgblaaa.nAt ns slot).prev = (Proofs.Ytckclflbcgblaaa.nAt ns' slot).prev from nm_prev hn, show (Proofs.Ytckclflbcgblaaa.nAt ns slot).next = (Proofs.Ytckclflbcgblaaa.nAt ns' slot).next from nm_next hn, show (Proofs.Ytckclflbcgblaaa.nAt ns slot).ln = (Proofs.Ytckclflbcgblaaa.nAt ns' slot).ln from nm_ln hn]
  exact (dropL_eqv hn (unlink_eqv h _ _) slot _).set slot rfl
end
/-- A plane like L. -/
def PgE (w : World) (g n c : Nat) (L : List ND) : Prop := ∃ ns, PgAt w w.heap.size (some ⟨g, 0, none⟩) n c ns ∧ Eqv L ns
theorem PgE.below {w w' : World} {g n c : Nat} {L : List ND} (h : PgE w g n c L) (hb : Below w.heap.size w w') : PgE w' g n c L := by
  obtain ⟨ns, h1, h2⟩ := h
  exact ⟨ns, h1.on hb hb.size, h2⟩
theorem PgE.len {w : World} {g n c : Nat} {L : List ND} (h : PgE w g n c L) : L.length = n := by obtain ⟨ns, h1, h2⟩ := h; rw [h2.len, h1.len]
theorem PgE.eqv {w : World} {g n c : Nat} {L L' : List ND} (h : PgE w g n c L) (he : Eqv L L') : PgE w g n c L' := by obtain ⟨ns, h1, h2⟩ := h; exact ⟨ns, h1, he.symm.trans h2⟩
/-- .. in a box. -/
structure PV (w : World) (t g n c : Nat) (en tp : Int) (L : List ND) : Prop where
  blk : Blk w t 27 (pgL (some ⟨g, 0, none⟩) n c en tp)
  pge : PgE w g n c L
theorem PV.below {w w' : World} {t g n c : Nat} {en tp : Int} {L : List ND} (h : PV w t g n c en tp L) (hb : Below w.heap.size w w') : PV w' t g n c en tp L := ⟨h.blk.below hb h.blk.lt, h.pge.below hb⟩
theorem PV.load {w : World} {t g n c : Nat} {en tp : Int} {L : List ND} (h : PV w t g n c en tp L) : (Instr.loadAt 27 (.pointer (some ⟨t, 0, none⟩))).run Try.prog w = .ok (.agg #[.slice (some ⟨g, 0, none⟩) n c, .int .i64 en, .int .i64 tp]) w := plane_load h.blk
theorem plane_put (W : World) (A : Option Addr) (n c : Nat) (en tp : Int) : (Instr.storeAt 27 (.pointer (some ⟨W.heap.size, 0, none⟩)) (.agg #[.slice A n c, .int .i64 en, .int .i64 tp])).run Try.prog (W.alloc (.cells #[.slice none 0 0, .int .i64 0, .int .i64 0] 27)) =
    .ok () ((W.alloc (.cells (pgL none 0 0 0 0) 27)).setCells W.heap.size 0 (pgL A n c en tp).toList) := row_store (Blk.new W 27 (pgL none 0 0 0 0)) (pgL A n c en tp) rfl planeT (by simp [pgL, Value.oneCell'])
theorem plane_bel (W : World) (A : Option Addr) (n c : Nat) (en tp : Int) : Below W.heap.size W ((W.alloc (.cells (pgL none 0 0 0 0) 27)).setCells W.heap.size 0 (pgL A n c en tp).toList) := below_setCells (bel_box _ _) (Nat.le_refl _) (Nat.le_refl _) _ _
theorem PV.new {W : World} {g n c : Nat} {en tp : Int} {L : List ND} (h : PgE W g n c L) : PV ((W.alloc (.cells (pgL none 0 0 0 0) 27)).setCells W.heap.size 0 (pgL (some ⟨g, 0, none⟩) n c en tp).toList) W.heap.size g n c en tp L :=
  ⟨(Blk.new W 27 (pgL none 0 0 0 0)).put _ rfl, h.below (plane_bel W _ _ _ _ _)⟩
section
variable {w : World} {g n c : Nat} {en tp : Int} {L : List ND}
/-- What Put tells, and what Link and Drop do. -/
def RetPut (L : List ND) (slot : Nat) (en tp : Int) (w : World) (e : Ending) (w' : World) : Prop := ∃ g n c, e = .returned (.tuple #[.agg #[.slice (some ⟨g, 0, none⟩) n c, .int .i64 en, .int .i64 tp], .int .i64 (slot : Int), .int .i64 0]) ∧ PgE w' g n c L ∧ Below w.heap.size w w'
def RetNo (y : Int) (w : World) (e : Ending) (w' : World) : Prop := e = .returned (.tuple #[.agg #[.slice none 0 0, .int .i64 0, .int .i64 0], .int .i64 0, .int .i64 y]) ∧ Below w.heap.size w w'
def RetIs (L : List ND) (en tp : Int) (b : Bool) (w : World) (e : Ending) (w' : World) : Prop := ∃ g n c, e = .returned (.tuple #[.agg #[.slice (some ⟨g, 0, none⟩) n c, .int .i64 en, .int .i64 tp], .bool b]) ∧ PgE w' g n c L ∧ Below w.heap.size w w'
theorem put_e (h : PgE w g n c L) (links level id : Int) (vA : Option Addr) (vn vc : Nat) (vxs : List Int) (tags : Int) (hv : IS.At w w.heap.size .i32 ⟨vA, vn, vc, vxs⟩) (hid : (Lit.int .u64 id).wf = true) (hy : putW L links en tp level id = 0) {s : Nat} (hs : slotI L = s) :
    Calls Try.prog 7 #[.agg #[.slice (some ⟨g, 0, none⟩) n c, .int .i64 en, .int .i64 tp], .agg #[.int .u64 id, .slice vA vn vc, .int .u64 tags], .int .i64 level, .int .i64 links] w (RetPut (putSt L s (putND L id vn vxs tags level)) s en tp w) := by
  obtain ⟨ns, h1, h2⟩ := h
  subst hs
  refine (pl_put (some ⟨g, 0, none⟩) n c ns en tp links level id vA vn vc vxs tags w h1 hv hid).mono ?_
  rintro e w' (⟨q1, q2, q3⟩ | ⟨_, g', n', c', ns', q2, q3, q4, q5⟩)
  · rw [← h2.putW] at q1; exact absurd hy q1
  · refine ⟨g', n', c', by rw [q2, h2.slot]; rfl, ⟨ns', q3, ?_⟩, q5⟩
    rw [h2.slot, h2.putND]
    exact (h2.putSt _ _).trans q4
theorem put_no (h : PgE w g n c L) (links level id : Int) (vA : Option Addr) (vn vc : Nat) (vxs : List Int) (tags : Int) (hv : IS.At w w.heap.size .i32 ⟨vA, vn, vc, vxs⟩) (hid : (Lit.int .u64 id).wf = true) {y : Int} (hy : putW L links en tp level id = y) (hy0 : y ≠ 0) :
    Calls Try.prog 7 #[.agg #[.slice (some ⟨g, 0, none⟩) n c, .int .i64 en, .int .i64 tp], .agg #[.int .u64 id, .slice vA vn vc, .int .u64 tags], .int .i64 level, .int .i64 links] w (RetNo y w) := by
  obtain ⟨ns, h1, h2⟩ := h
  refine (pl_put (some ⟨g, 0, none⟩) n c ns en tp links level id vA vn vc vxs tags w h1 hv hid).mono ?_
  rintro e w' (⟨q1, q2, q3⟩ | ⟨q1, _⟩)
  · rw [← h2.putW, hy] at q2; exact ⟨q2, q3⟩
  · rw [← h2.putW, hy] at q1; exact absurd q1 hy0
theorem drop_e (h : PgE w g n c L) (h0 : 0 < n) (links slot : Int) {r : Bool} (hr : dropB L links en tp slot = r) :
    Calls Try.prog 8 #[.agg #[.slice (some ⟨g, 0, none⟩) n c, .int .i64 en, .int .i64 tp], .int .i64 slot, .int .i64 links] w (RetIs (if r then dropSt L slot.toNat else L) (if r && (en == slot) then 0 else en) (if r && (en == slot) then 0 else tp) r w) := by
  obtain ⟨ns, h1, h2⟩ := h
  refine (pl_drop (some ⟨g, 0, none⟩) n c ns en tp links slot w h1 h0).mono ?_
  rintro e w' ⟨g', n', c', ns', q2, q3, q4, q5⟩
  rw [← h2.dropB, hr] at q2 q4
  refine ⟨g', n', c', q2, ⟨ns', q3, Eqv.trans ?_ q4⟩, q5⟩
  cases r with
  | true => exact h2.dropSt _
  | false => exact h2
theorem chk_e (h : PgE w g n c L) (links : Int) {y : Int} (hy : chkW L links en tp = y) : Calls Try.prog 12 #[.agg #[.slice (some ⟨g, 0, none⟩) n c, .int .i64 en, .int .i64 tp], .int .i64 links] w (RetE y w) := by
  obtain ⟨ns, h1, h2⟩ := h
  rw [← hy, h2.chkW]
  exact pl_check _ _ _ _ _ _ _ _ h1
theorem there_e (h : PgE w g n c L) (s : Int) {y : Bool} (hy : thB L s = y) : Calls Try.prog 20 #[.agg #[.slice (some ⟨g, 0, none⟩) n c, .int .i64 en, .int .i64 tp], .int .i64 s] w (RetB y w) := by
  obtain ⟨ns, h1, h2⟩ := h
  rw [← hy, h2.thB]
  exact pl_there _ _ _ _ _ _ _ _ h1
theorem live_e (h : PgE w g n c L) {y : List Int} (hy : liveI L = y) : Calls Try.prog 13 #[.agg #[.slice (some ⟨g, 0, none⟩) n c, .int .i64 en, .int .i64 tp]] w (RetI y w) := by
  obtain ⟨ns, h1, h2⟩ := h
  rw [← hy, h2.live]
  exact pl_live _ _ _ _ _ _ _ h1
theorem ring_e (h : PgE w g n c L) {y : List Int} (hy : ringI L = y) : Calls Try.prog 11 #[.agg #[.slice (some ⟨g, 0, none⟩) n c, .int .i64 en, .int .i64 tp]] w (RetI y w) := by
  obtain ⟨ns, h1, h2⟩ := h
  rw [← hy, h2.ring]
  exact pl_ring _ _ _ _ _ _ _ h1
theorem near_e (h : PgE w g n c L) (s level : Int) {y : List Int} (hy : nearI L s level = y) : Calls Try.prog 15 #[.agg #[.slice (some ⟨g, 0, none⟩) n c, .int .i64 en, .int .i64 tp], .int .i64 s, .int .i64 level] w (RetI y w) := by
  obtain ⟨ns, h1, h2⟩ := h
  rw [← hy, h2.near]
  exact pl_near _ _ _ _ _ _ _ _ _ h1
theorem new_e : Calls Try.prog 6 #[] w (fun e w' => ∃ g n c, e = .returned (.agg #[.slice (some ⟨g, 0, none⟩) n c, .int .i64 0, .int .i64 0]) ∧ PgE w' g n c [nd0] ∧ Below w.heap.size w w') :=
  (pl_new w).mono fun _ _ ⟨g, n, c, ns, q1, q2, q3, q4⟩ => ⟨g, n, c, q1, ⟨ns, q2, by rw [q3]; exact Eqv.refl _⟩, q4⟩
end
theorem vec0 (w : World) : IS.At w w.heap.size .i32 ⟨none, 0, 0, []⟩ := ⟨fun _ => ⟨rfl, rfl⟩, Nat.zero_le _, Rd.nil_, (fun x hx => by cases hx)⟩
theorem ints_at_lits (w : World) (cs : List Int) (n : Nat) (hn : cs.length = n) : Rd (w.alloc (.cells (cs.map (Value.int .i64)).toArray 3)) (w.alloc (.cells (cs.map (Value.int .i64)).toArray 3)).heap.size (some ⟨w.heap.size, 0, none⟩) n (cs.map (.int .i64)) := by
  subst hn
  exact IB.rd (g := w.heap.size) (t := 3) (cs := cs) ⟨[], by rw [heap_alloc_new]; simp⟩
end Go.Proofs.Ytckclflbcgblaaa
