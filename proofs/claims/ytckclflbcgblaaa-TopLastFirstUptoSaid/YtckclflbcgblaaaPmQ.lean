/- Planes: what Drop does, step by step. -/
import Derived.Test.YtckclflbcgblaaaPmP
namespace Go.Proofs.Ytckclflbcgblaaa
open Go.RowKit Go.Maps Go.ChangeMaps Go.MapKept
/-- A node that is not there. -/
def ndX : ND := ⟨0, ⟨none, 0, 0, []⟩, 0, 0, none, 0, 0, [], -1, -1⟩
theorem PtS.bare {w wr : World} {r B g c : Nat} {en tp : Int} {W : Nat → Prop} {hl : Nat → Nat} {ns : List ND} (H : PtS w wr r B g c en tp W hl ns) {i : Nat} (hi : i < ns.length) :
    wr.there g (i * 7) 7 ∧ ∃ W' hl', PtS w (wr.setCells g (i * 7) ndX.cells.toList) r B g c en tp W' hl' (ns.set i ndX) := by
  have hgB := H.own.gB
  have hbB := H.bB
  have hsz := H.bel.size
  have hgl := H.own.row.lt
  have hT : Tch (fun k => k = g) wr (wr.setCells g (i * 7) ndX.cells.toList) := Tch.setCells (S := fun k => k = g) rfl _ _ _ (Tch.refl _ _)
  have hs2 := hT.size
  have hx := getElem_nAt hi
  refine ⟨fun j hj => ⟨?_, H.own.row.frozen _⟩, ?_⟩
  · rw [H.own.row.cell (flat_get2 hx j hj |>.trans (List.getElem?_eq_getElem (by rw [cells_len]; exact hj)))]; rfl
  obtain ⟨W', hl', O, hW⟩ := H.own.step (w' := wr.setCells g (i * 7) ndX.cells.toList) hT (i := i) (d' := ndX) (m' := ns.length) hi (.inl rfl) hi H.bB.2.2 (by have := H.own.row.setCells ndX.cells.toList (i * 7); rw [flat_setL hi] at this; exact this)
    ⟨⟨fun _ => ⟨rfl, rfl⟩, Nat.zero_le _, ⟨rfl, fun h => absurd h (by decide)⟩, (fun x hx => by cases hx)⟩, fun _ => ⟨rfl, rfl⟩, Nat.zero_le _, rfl, (fun l hl => by cases hl), rfl, rfl, rfl, rfl, (fun l hl => by cases hl)⟩
    (fun h => absurd h (by decide))
  refine ⟨W', hl', by rw [List.length_set]; exact O, below_setCells H.bel (Nat.le_refl _) (by omega) _ _, ?_, H.res.tch hT (by omega), fun k p1 p2 => hW k (H.wl k p1 p2), hbB.1, hbB.2.1, by omega⟩
  rw [List.length_set]
  exact H.pl.tch hT (by omega)
theorem PtS.entry {w wr : World} {r B g c : Nat} {en tp : Int} {W : Nat → Prop} {hl : Nat → Nat} {ns : List ND} (H : PtS w wr r B g c en tp W hl ns) :
    wr.cell? ⟨w.heap.size, 1, none⟩ = some (.int .i64 en) ∧ wr.frozen? ⟨w.heap.size, 1, none⟩ = false ∧ wr.cell? ⟨w.heap.size, 2, none⟩ = some (.int .i64 tp) ∧ wr.frozen? ⟨w.heap.size, 2, none⟩ = false ∧
    PtS w ((wr.setCell ⟨w.heap.size, 1, none⟩ (.int .i64 0)).setCell ⟨w.heap.size, 2, none⟩ (.int .i64 0)) r B g c 0 0 W hl ns := by
  have hbB := H.bB
  have hgB := H.own.gB
  have hT : Tch (fun k => k = w.heap.size) wr ((wr.setCell ⟨w.heap.size, 1, none⟩ (.int .i64 0)).setCell ⟨w.heap.size, 2, none⟩ (.int .i64 0)) := Tch.setCell (S := fun k => k = w.heap.size) (Tch.setCell (S := fun k => k = w.heap.size) (Tch.refl _ _) rfl _ _) rfl _ _
  have hs := hT.size
  refine ⟨H.pl.cell 1, H.pl.frozen 1, H.pl.cell 2, H.pl.frozen 2, H.own.off hT (H.wl _ (Nat.le_refl _) (by omega)) (by omega), (H.bel.setCell (Nat.le_refl _) _).setCell (Nat.le_refl _) _, ?_, H.res.tch hT (by omega), H.wl, hbB.1, hbB.2.1, by omega⟩
  exact (H.pl.set_ 1 (.int .i64 0)).set_ 2 (.int .i64 0)
def dropX (slot k : Nat) (l : List ND) (x : Int) : List ND := lsSet l x.toNat k (withoutI (lsAt (nAt l x.toNat) k).xs slot)
def dropK (slot : Nat) (d : ND) (l : List ND) (k : Nat) : List ND := (lsAt d k).xs.foldl (dropX slot k) l
def unlinkN (ns : List ND) (pv nx : Nat) : List ND := (ns.set pv { nAt ns pv with next := (nx : Int) }).set nx { nAt (ns.set pv { nAt ns pv with next := (nx : Int) }) nx with prev := (pv : Int) }
def dropL (slot : Nat) (d : ND) (l : List ND) (m : Nat) : List ND := (List.range m).foldl (dropK slot d) l
/-- A plane without a node. -/
def dropSt (ns : List ND) (slot : Nat) : List ND := (dropL slot (nAt ns slot) (unlinkN ns (nAt ns slot).prev.toNat (nAt ns slot).next.toNat) (nAt ns slot).ln).set slot ndX
theorem lsSet_len (l : List ND) (i k : Nat) (xs : List Int) : (lsSet l i k xs).length = l.length := by unfold lsSet; rw [List.length_set]
theorem nAt_out {ns : List ND} {i : Nat} (h : ns.length ≤ i) : nAt ns i = nd0 := by unfold nAt; rw [List.getD_eq_getElem?_getD, List.getElem?_eq_none h]; rfl
theorem set_out {ns : List ND} {i : Nat} {d : ND} (h : ns.length ≤ i) : ns.set i d = ns := List.set_eq_of_length_le h
theorem lsSet_ln (l : List ND) (i k j : Nat) (xs : List Int) : (nAt (lsSet l i k xs) j).ln = (nAt l j).ln := by
  unfold lsSet
  by_cases h : i = j
  · subst h
    by_cases hi : i < l.length
    · rw [nAt_set_self hi]
    · rw [set_out (by omega)]
  · rw [nAt_set_ne h]
theorem lsSet_ls {l : List ND} {i k j : Nat} {xs : List Int} (h : i ≠ j) : nAt (lsSet l i k xs) j = nAt l j := nAt_set_ne h
theorem dropX_len (slot k : Nat) (l : List ND) (x : Int) : (dropX slot k l x).length = l.length := lsSet_len _ _ _ _
theorem dropX_ln (slot k : Nat) (l : List ND) (x : Int) (j : Nat) : (nAt (dropX slot k l x) j).ln = (nAt l j).ln := lsSet_ln _ _ _ _ _
theorem foldX_ln (slot k : Nat) : ∀ (xs : List Int) (l : List ND) (j : Nat), (nAt (xs.foldl (dropX slot k) l) j).ln = (nAt l j).ln
  | [], _, _ => rfl
  | x :: xs, l, j => by rw [List.foldl_cons, foldX_ln slot k xs, dropX_ln]
theorem foldX_len (slot k : Nat) : ∀ (xs : List Int) (l : List ND), (xs.foldl (dropX slot k) l).length = l.length
  | [], _ => rfl
  | x :: xs, l => by rw [List.foldl_cons, foldX_len slot k xs, dropX_len]
theorem dropL_succ (slot : Nat) (d : ND) (l : List ND) (m : Nat) : dropL slot d l (m + 1) = dropK slot d (dropL slot d l m) m := by unfold dropL; rw [List.range_succ, List.foldl_append]; rfl
theorem dropL_ln (slot : Nat) (d : ND) (l : List ND) (j : Nat) : ∀ m, (nAt (dropL slot d l m) j).ln = (nAt l j).ln
  | 0 => rfl
  | m + 1 => by rw [dropL_succ]; unfold dropK; rw [foldX_ln, dropL_ln slot d l j m]
theorem dropL_len (slot : Nat) (d : ND) (l : List ND) : ∀ m, (dropL slot d l m).length = l.length
  | 0 => rfl
  | m + 1 => by rw [dropL_succ]; unfold dropK; rw [foldX_len, dropL_len slot d l m]
theorem unlink_len (ns : List ND) (pv nx : Nat) : (unlinkN ns pv nx).length = ns.length := by unfold unlinkN; rw [List.length_set, List.length_set]
theorem unlink_ls (ns : List ND) (pv nx j : Nat) : (nAt (unlinkN ns pv nx) j).ls = (nAt ns j).ls ∧ (nAt (unlinkN ns pv nx) j).ln = (nAt ns j).ln := by
  have key : ∀ (l : List ND) (i : Nat) (d : ND), d.ls = (nAt l i).ls → d.ln = (nAt l i).ln → (nAt (l.set i d) j).ls = (nAt l j).ls ∧ (nAt (l.set i d) j).ln = (nAt l j).ln := by
    intro l i d h1 h2
    by_cases h : i = j
    · subst h
      by_cases hi : i < l.length
      · rw [nAt_set_self hi]; exact ⟨h1, h2⟩
      · rw [set_out (by omega)]; exact ⟨rfl, rfl⟩
    · rw [nAt_set_ne h]; exact ⟨rfl, rfl⟩
  unfold unlinkN
  obtain ⟨a1, a2⟩ := key (ns.set pv { nAt ns pv with next := (nx : Int) }) nx { nAt (ns.set pv { nAt ns pv with next := (nx : Int) }) nx with prev := (pv : Int) } rfl rfl
  obtain ⟨b1, b2⟩ := key ns pv { nAt ns pv with next := (nx : Int) } rfl rfl
  exact ⟨a1.trans b1, a2.trans b2⟩
theorem unlink_eqv {ns ns' : List ND} (h : Eqv ns ns') (pv nx : Nat) : Eqv (unlinkN ns pv nx) (unlinkN ns' pv nx) := by
  unfold unlinkN
  have h1 := h.set pv (norm_next (h.nAt pv) (nx : Int))
  exact h1.set nx (norm_prev (h1.nAt nx) (pv : Int))
theorem without_len (xs : List Int) (v : Int) : (withoutI xs v).length ≤ xs.length := List.length_filter_le _ _
theorem without_wf {xs : List Int} {v : Int} (h : ∀ x ∈ xs, (Lit.int .i64 x).wf = true) : ∀ x ∈ withoutI xs v, (Lit.int .i64 x).wf = true := fun x hx => h x (List.mem_filter.1 hx).1
/-- What a right plane says of a node's neighbours. -/
theorem chk_list {ns : List ND} {links en tp : Int} (h : chkB ns links en tp = true) {i k : Nat} (hi : thN ns i = true) (hk : k < (nAt ns i).ln) {x : Int} (hx : x ∈ (lsAt (nAt ns i) k).xs) : ∃ j : Nat, x = j ∧ thN ns j = true ∧ j ≠ i ∧ k < (nAt ns j).ln ∧ (i : Int) ∈ (lsAt (nAt ns j) k).xs := by
  obtain ⟨_, _, _, h4, _⟩ := chk_parts h
  rw [List.all_eq_true] at h4
  have hm : (i : Int) ∈ liveI ns := by
    unfold liveI lvI
    exact List.mem_map.2 ⟨i, List.mem_filter.2 ⟨List.mem_range.2 (thN_iff.1 hi).2.1, hi⟩, rfl⟩
  have h5 := h4 _ hm
  rw [Int.toNat_natCast] at h5
  unfold nodeB at h5
  rw [Bool.and_eq_true, Bool.and_eq_true] at h5
  have h6 := h5.1.2
  unfold listsB at h6
  rw [List.all_eq_true] at h6
  have h7 := h6 k (List.mem_range.2 hk)
  unfold listB at h7
  rw [Bool.and_eq_true, List.all_eq_true] at h7
  obtain ⟨h8, h9⟩ := h7
  have h10 := h9 x hx
  unfold backB at h10
  rw [Bool.and_eq_true, Bool.and_eq_true, decide_eq_true_eq] at h10
  obtain ⟨j, rfl, hj⟩ := thB_nat_iff.1 h10.1.1
  rw [Int.toNat_natCast] at h10
  refine ⟨j, rfl, hj, ?_, h10.1.2, hasI_iff.1 h10.2⟩
  rintro rfl
  unfold rightB at h8
  rw [Bool.and_eq_true, Bool.and_eq_true, List.all_eq_true] at h8
  have := h8.1.1 _ hx
  unfold okE at this
  simp at this
theorem chk_ring {ns : List ND} {links en tp : Int} (h : chkB ns links en tp = true) {i : Nat} (hi : thN ns i = true) : ∃ pv nx : Nat, (nAt ns i).prev = pv ∧ (nAt ns i).next = nx ∧ pv < ns.length ∧ nx < ns.length := by
  obtain ⟨h1, _, h3, _⟩ := chk_parts h
  have := ring_ok h3 (thN_iff.1 hi).2.1
  unfold rOk at this
  rw [if_neg (by rw [hi]; simp), Bool.and_eq_true, Bool.and_eq_true] at this
  obtain ⟨nx, e1, l1⟩ := place_nat (by omega) this.1.1
  obtain ⟨pv, e2, l2⟩ := place_nat (by omega) this.1.2
  exact ⟨pv, nx, e2, e1, l2, l1⟩
end Go.Proofs.Ytckclflbcgblaaa
