/- Planes: what Put does to memory, step by step. -/
import Derived.Test.YtckclflbcgblaaaPmJ
import Derived.Test.YtckclflbcgblaaaPmK
import Derived.Laws.OwnMore
import Derived.Deep.AppendLies
namespace Go.Proofs.Ytckclflbcgblaaa
open Go.RowKit Go.Maps Go.ChangeMaps Go.MapKept
theorem getElem_nAt {ns : List ND} {i : Nat} (h : i < ns.length) : ns[i]? = some (nAt ns i) := by rw [nAt_of (List.getElem?_eq_getElem h)]; exact List.getElem?_eq_getElem h
/-- A node's place in the ring is another one. -/
theorem OwnP.setNext {w : World} {B g c m : Nat} {W : Nat → Prop} {hl : Nat → Nat} {ns : List ND} (h : OwnP w B g c m W hl ns) {i : Nat} (hi : i < ns.length) {v : Int} (hv : (Lit.int .i64 v).wf = true) :
    w.cell? ⟨g, i * 7 + 5, none⟩ = some (.int .i64 (nAt ns i).next) ∧ w.frozen? ⟨g, i * 7 + 5, none⟩ = false ∧ OwnP (w.setCell ⟨g, i * 7 + 5, none⟩ (.int .i64 v)) B g c m W hl (ns.set i { nAt ns i with next := v }) := by
  have hd := getElem_nAt hi
  have hT : Tch (fun k => k = g) w (w.setCell ⟨g, i * 7 + 5, none⟩ (.int .i64 v)) := Tch.setCell (S := fun k => k = g) (Tch.refl _ _) rfl _ _
  have hsz : (w.setCell ⟨g, i * 7 + 5, none⟩ (.int .i64 v)).heap.size = w.heap.size := by simp [World.setCell]
  refine ⟨h.row.cell (flat_get2 hd 5 (by decide)), h.row.frozen _, h.same hT hd ?_ ⟨rfl, rfl, rfl, rfl⟩ ?_⟩
  · have := h.row.set_ (i * 7 + 5) (.int .i64 v)
    rw [flat_set (k := 5) (d' := { nAt ns i with next := v }) hd (by decide) rfl] at this
    exact this
  · have hn := (h.nd i _ hd).tch hT fun b hb => ⟨hb.1, fun e => hb.2 (e ▸ h.wg)⟩
    exact ⟨hn.1.mono fun b hb => ⟨by omega, .inl hb⟩, hn.2.1, hn.2.2.1, hn.2.2.2.1, fun l hl => (hn.2.2.2.2.1 l hl).mono fun b hb => ⟨by omega, .inl hb⟩, hn.2.2.2.2.2.1, hn.2.2.2.2.2.2.1, hv, hn.2.2.2.2.2.2.2.2.1, hn.2.2.2.2.2.2.2.2.2⟩
theorem OwnP.setPrev {w : World} {B g c m : Nat} {W : Nat → Prop} {hl : Nat → Nat} {ns : List ND} (h : OwnP w B g c m W hl ns) {i : Nat} (hi : i < ns.length) {v : Int} (hv : (Lit.int .i64 v).wf = true) :
    w.cell? ⟨g, i * 7 + 6, none⟩ = some (.int .i64 (nAt ns i).prev) ∧ w.frozen? ⟨g, i * 7 + 6, none⟩ = false ∧ OwnP (w.setCell ⟨g, i * 7 + 6, none⟩ (.int .i64 v)) B g c m W hl (ns.set i { nAt ns i with prev := v }) := by
  have hd := getElem_nAt hi
  have hT : Tch (fun k => k = g) w (w.setCell ⟨g, i * 7 + 6, none⟩ (.int .i64 v)) := Tch.setCell (S := fun k => k = g) (Tch.refl _ _) rfl _ _
  have hsz : (w.setCell ⟨g, i * 7 + 6, none⟩ (.int .i64 v)).heap.size = w.heap.size := by simp [World.setCell]
  refine ⟨h.row.cell (flat_get2 hd 6 (by decide)), h.row.frozen _, h.same hT hd ?_ ⟨rfl, rfl, rfl, rfl⟩ ?_⟩
  · have := h.row.set_ (i * 7 + 6) (.int .i64 v)
    rw [flat_set (k := 6) (d' := { nAt ns i with prev := v }) hd (by decide) rfl] at this
    exact this
  · have hn := (h.nd i _ hd).tch hT fun b hb => ⟨hb.1, fun e => hb.2 (e ▸ h.wg)⟩
    exact ⟨hn.1.mono fun b hb => ⟨by omega, .inl hb⟩, hn.2.1, hn.2.2.1, hn.2.2.2.1, fun l hl => (hn.2.2.2.2.1 l hl).mono fun b hb => ⟨by omega, .inl hb⟩, hn.2.2.2.2.2.1, hn.2.2.2.2.2.2.1, hn.2.2.2.2.2.2.2.1, hv, hn.2.2.2.2.2.2.2.2.2⟩
/-- A plane under way: its own memory, and the boxes of a plane and of what is told. -/
structure PtS (w wr : World) (r B g c : Nat) (en tp : Int) (W : Nat → Prop) (hl : Nat → Nat) (ns : List ND) : Prop where
  own : OwnP wr B g c ns.length W hl ns
  bel : Below w.heap.size w wr
  pl : Blk wr w.heap.size 27 (pgL (some ⟨g, 0, none⟩) ns.length c en tp)
  res : Blk wr r 27 (pgL none 0 0 0 0)
  wl : ∀ k, w.heap.size ≤ k → k ≤ r → W k
  bB : r < B ∧ w.heap.size < r ∧ B ≤ wr.heap.size
theorem PtS.start {w w6 w7 : World} {r B g c n : Nat} {en tp en0 tp0 : Int} {A0 : Option Addr} {n0 c0 : Nat} {W : Nat → Prop} {hl : Nat → Nat} {ns' : List ND} (hB : w6.heap.size ≤ B) (ho : OwnP w7 B g c n W hl ns') (hn : ns'.length = n) (hw : ∀ k, w.heap.size ≤ k → k < w6.heap.size → W k)
    (hb : Below w6.heap.size w6 w7) (h6 : Below w.heap.size w w6) (hp : Blk w6 w.heap.size 27 (pgL A0 n0 c0 en0 tp0)) (hr : Blk w6 r 27 (pgL none 0 0 0 0)) (hwr : w.heap.size < r) (hBB : B ≤ w7.heap.size) :
    PtS w (w7.setCells w.heap.size 0 (pgL (some ⟨g, 0, none⟩) n c en tp).toList) r B g c en tp W hl ns' := by
  subst hn
  have hr6 := hr.lt
  have hp7 := hp.below hb hp.lt
  have hr7 := hr.below hb hr.lt
  have hsz := h6.size
  have hT : Tch (fun k => k = w.heap.size) w7 (w7.setCells w.heap.size 0 (pgL (some ⟨g, 0, none⟩) ns'.length c en tp).toList) := Tch.setCells (S := fun k => k = w.heap.size) rfl _ _ _ (Tch.refl _ _)
  have hs := hT.size
  exact ⟨ho.off hT (hw _ (Nat.le_refl _) (by omega)) (by omega), below_setCells (h6.trans (hb.mono hsz)) (Nat.le_refl _) (Nat.le_refl _) _ _, hp7.put _ rfl, hr7.tch hT (by omega), fun k q1 q2 => hw k q1 (by omega), by omega, hwr, by omega⟩
/-- Memory more, and nothing else. -/
theorem PtS.more {w wr w' : World} {r B g c : Nat} {en tp : Int} {W : Nat → Prop} {hl : Nat → Nat} {ns : List ND} (H : PtS w wr r B g c en tp W hl ns) (hb : Below wr.heap.size wr w') : PtS w w' r B g c en tp W hl ns :=
  ⟨H.own.below hb, H.bel.trans (hb.mono H.bel.size), H.pl.below hb H.pl.lt, H.res.below hb H.res.lt, H.wl, H.bB.1, H.bB.2.1, Nat.le_trans H.bB.2.2 hb.size⟩
/-- A node more. -/
theorem PtS.grow {w wr w' : World} {r B g g' c c' : Nat} {en tp : Int} {W : Nat → Prop} {hl : Nat → Nat} {ns : List ND} (H : PtS w wr r B g c en tp W hl ns) (hT : Tch (fun k => k = g) wr w') (hg : g' = g ∨ wr.heap.size ≤ g')
    (ho : w'.ownsRow B 49 7 (.slice (some ⟨g', 0, none⟩) (ns.length + 1) c') (ns.length + 1) (flat ns ++ nd0.cells.toList)) (hs : ns.length + 1 ≤ 1048576) :
    w'.cell? ⟨w.heap.size, 0, none⟩ = some (.slice (some ⟨g, 0, none⟩) ns.length c) ∧ w'.frozen? ⟨w.heap.size, 0, none⟩ = false ∧ ∃ W', PtS w (w'.setCell ⟨w.heap.size, 0, none⟩ (.slice (some ⟨g', 0, none⟩) (ns.length + 1) c')) r B g' c' en tp W' hl (ns ++ [nd0]) := by
  have hgB := H.own.gB
  have hbB := H.bB
  have hsz := H.bel.size
  have hszT := hT.size
  obtain ⟨g2, e, q1, q2, q3, hr⟩ := Rw.of_own ho (by omega)
  injection e with e
  injection e with e
  subst e
  rw [← flat_append] at hr
  have P := H.pl.tch hT (by omega)
  have R := H.res.tch hT (by omega)
  obtain ⟨W', O, hW⟩ := H.own.append hT hg H.bB.2.2 hr ⟨q2, q3⟩ hs rfl
  have hT2 : Tch (fun k => k = w.heap.size) w' (w'.setCell ⟨w.heap.size, 0, none⟩ (.slice (some ⟨g', 0, none⟩) (ns.length + 1) c')) := Tch.setCell (S := fun k => k = w.heap.size) (Tch.refl _ _) rfl _ _
  have hs2 := hT2.size
  have hb : Below w.heap.size w w' := H.bel.trans (hT.below hsz (by rintro k rfl; omega))
  refine ⟨P.cell 0, P.frozen 0, W', ?_, ?_, ?_, ?_, fun k p1 p2 => hW k (H.wl k p1 p2), by omega, by omega, by omega⟩
  · rw [List.length_append, List.length_singleton]
    exact O.off hT2 (hW _ (H.wl _ (Nat.le_refl _) (by omega))) (by omega)
  · exact hb.setCell (Nat.le_refl _) _
  · have := P.set_ 0 (.slice (some ⟨g', 0, none⟩) (ns.length + 1) c')
    rw [List.length_append, List.length_singleton]
    exact this
  · exact R.tch hT2 (by omega)
/-- A node is put, with new lists and a new vector. -/
theorem PtS.node {w wr w' : World} {r B g c : Nat} {en tp : Int} {W : Nat → Prop} {hl : Nat → Nat} {ns : List ND} (H : PtS w wr r B g c en tp W hl ns) (hb : Below wr.heap.size wr w') {i : Nat} (hi : i < ns.length) {d : ND} {h : Nat}
    (hh : wr.heap.size ≤ h) (hd : NdS w' (fun k => k < w'.heap.size ∧ ((k < wr.heap.size ∧ ¬ W k) ∨ (wr.heap.size ≤ k ∧ k ≠ h))) d) (hL : d.LA = some ⟨h, 0, none⟩ ∧ d.ln ≤ d.lc ∧ Rw w' h 23 (d.lc * 1) (d.ls.map IS.v)) :
    w'.there g (i * 7) 7 ∧ ∃ W' hl', PtS w (w'.setCells g (i * 7) d.cells.toList) r B g c en tp W' hl' (ns.set i d) := by
  have hgB := H.own.gB
  have hbB := H.bB
  have hsz := H.bel.size
  have hszb := hb.size
  have hgl := H.own.row.lt
  have Rg : Rw w' g 49 (c * 7) (flat ns) := H.own.row.at_ (hb.block _ hgl)
  have hT : Tch (fun k => k = g) wr (w'.setCells g (i * 7) d.cells.toList) := Tch.setCells (S := fun k => k = g) rfl _ _ _ (Tch.of_below hb)
  have hT2 : Tch (fun k => k = g) w' (w'.setCells g (i * 7) d.cells.toList) := Tch.setCells (S := fun k => k = g) rfl _ _ _ (Tch.refl _ _)
  have hs2 := hT2.size
  have hx := getElem_nAt hi
  refine ⟨fun j hj => ⟨?_, Rg.frozen _⟩, ?_⟩
  · rw [Rg.cell (flat_get2 hx j hj |>.trans (List.getElem?_eq_getElem (by rw [cells_len]; exact hj)))]; rfl
  obtain ⟨W', hl', O, hW⟩ := H.own.step (w' := w'.setCells g (i * 7) d.cells.toList) hT (i := i) (d' := d) (m' := ns.length) hi (.inl rfl) hi H.bB.2.2 (by have := Rg.setCells d.cells.toList (i * 7); rw [flat_setL hi] at this; exact this)
    ((hd.tch hT2 fun b hb => ⟨hb.1, by
      rcases hb.2 with q | q
      · intro e; exact q.2 (e ▸ H.own.wg)
      · omega⟩).mono fun b q => ⟨by omega, by
      rcases q.2 with q | q
      · exact .inl q
      · exact .inr ⟨q.1, by rw [hL.1]; intro e; injection e with e; injection e with e; exact q.2 e.symm⟩⟩)
    (fun _ => by
      obtain ⟨e1, e2, e3⟩ := hL
      exact ⟨h, e1, hh, e2, e3.at_ (hT2.block _ e3.lt (by omega))⟩)
  refine ⟨W', hl', by rw [List.length_set]; exact O, below_setCells (H.bel.trans (hb.mono hsz)) (Nat.le_refl _) (by omega) _ _, ?_, (H.res.below hb H.res.lt).tch hT2 (by omega), fun k p1 p2 => hW k (H.wl k p1 p2), hbB.1, hbB.2.1, by omega⟩
  rw [List.length_set]
  exact (H.pl.below hb H.pl.lt).tch hT2 (by omega)
theorem PtS.next {w wr : World} {r B g c : Nat} {en tp : Int} {W : Nat → Prop} {hl : Nat → Nat} {ns : List ND} (H : PtS w wr r B g c en tp W hl ns) {i : Nat} (hi : i < ns.length) {v : Int} (hv : (Lit.int .i64 v).wf = true) :
    wr.cell? ⟨g, i * 7 + 5, none⟩ = some (.int .i64 (nAt ns i).next) ∧ wr.frozen? ⟨g, i * 7 + 5, none⟩ = false ∧ PtS w (wr.setCell ⟨g, i * 7 + 5, none⟩ (.int .i64 v)) r B g c en tp W hl (ns.set i { nAt ns i with next := v }) := by
  obtain ⟨h1, h2, h3⟩ := H.own.setNext hi hv
  have hgB := H.own.gB
  have hbB := H.bB
  have hT : Tch (fun k => k = g) wr (wr.setCell ⟨g, i * 7 + 5, none⟩ (.int .i64 v)) := Tch.setCell (S := fun k => k = g) (Tch.refl _ _) rfl _ _
  have hs := hT.size
  refine ⟨h1, h2, by rw [List.length_set]; exact h3, H.bel.setCell (by show w.heap.size ≤ g; omega) _, by rw [List.length_set]; exact H.pl.tch hT (by omega), H.res.tch hT (by omega), H.wl, hbB.1, hbB.2.1, by omega⟩
theorem PtS.prev {w wr : World} {r B g c : Nat} {en tp : Int} {W : Nat → Prop} {hl : Nat → Nat} {ns : List ND} (H : PtS w wr r B g c en tp W hl ns) {i : Nat} (hi : i < ns.length) {v : Int} (hv : (Lit.int .i64 v).wf = true) :
    wr.cell? ⟨g, i * 7 + 6, none⟩ = some (.int .i64 (nAt ns i).prev) ∧ wr.frozen? ⟨g, i * 7 + 6, none⟩ = false ∧ PtS w (wr.setCell ⟨g, i * 7 + 6, none⟩ (.int .i64 v)) r B g c en tp W hl (ns.set i { nAt ns i with prev := v }) := by
  obtain ⟨h1, h2, h3⟩ := H.own.setPrev hi hv
  have hgB := H.own.gB
  have hbB := H.bB
  have hT : Tch (fun k => k = g) wr (wr.setCell ⟨g, i * 7 + 6, none⟩ (.int .i64 v)) := Tch.setCell (S := fun k => k = g) (Tch.refl _ _) rfl _ _
  have hs := hT.size
  refine ⟨h1, h2, by rw [List.length_set]; exact h3, H.bel.setCell (by show w.heap.size ≤ g; omega) _, by rw [List.length_set]; exact H.pl.tch hT (by omega), H.res.tch hT (by omega), H.wl, hbB.1, hbB.2.1, by omega⟩
/-- A block that is neither the plane's nor what is told is written. -/
theorem PtS.off {w wr w' : World} {r B g c x : Nat} {en tp : Int} {W : Nat → Prop} {hl : Nat → Nat} {ns : List ND} (H : PtS w wr r B g c en tp W hl ns) (hT : Tch (fun k => k = x) wr w') (hx : w.heap.size < x ∧ x < r) : PtS w w' r B g c en tp W hl ns := by
  have hbB := H.bB
  have hs := hT.size
  have hsz := H.bel.size
  exact ⟨H.own.off hT (H.wl x (by omega) (by omega)) (by omega), H.bel.trans (hT.below hsz (by rintro k rfl; omega)), H.pl.tch hT (by omega), H.res.tch hT (by omega), H.wl, hbB.1, hbB.2.1, by omega⟩
/-- What is told is the plane. -/
theorem PtS.fin {w wr : World} {r B g c : Nat} {en tp en0 tp0 : Int} {W : Nat → Prop} {hl : Nat → Nat} {ns : List ND} (H : PtS w wr r B g c en0 tp0 W hl ns) (hr : Blk wr r 27 (pgL none 0 0 0 0)) :
    Blk (wr.setCells r 0 (pgL (some ⟨g, 0, none⟩) ns.length c en tp).toList) r 27 (pgL (some ⟨g, 0, none⟩) ns.length c en tp) ∧
    PgAt (wr.setCells r 0 (pgL (some ⟨g, 0, none⟩) ns.length c en tp).toList) (wr.setCells r 0 (pgL (some ⟨g, 0, none⟩) ns.length c en tp).toList).heap.size (some ⟨g, 0, none⟩) ns.length c ns ∧
    Below w.heap.size w (wr.setCells r 0 (pgL (some ⟨g, 0, none⟩) ns.length c en tp).toList) := by
  have hbB := H.bB
  have hT : Tch (fun k => k = r) wr (wr.setCells r 0 (pgL (some ⟨g, 0, none⟩) ns.length c en tp).toList) := Tch.setCells (S := fun k => k = r) rfl _ _ _ (Tch.refl _ _)
  exact ⟨hr.put _ rfl, (H.own.off hT (H.wl r (by omega) (Nat.le_refl _)) hbB.1).pg, below_setCells H.bel (Nat.le_refl _) (by omega) _ _⟩
end Go.Proofs.Ytckclflbcgblaaa
