/- Planes: a plane of its own memory. Printed by genPmI.py. -/
import Derived.Test.YtckclflbcgblaaaPmH
namespace Go.Proofs.Ytckclflbcgblaaa
open Go.RowKit Go.Maps Go.ChangeMaps Go.MapKept
theorem exec_load {w : World} {o : Oper} {a : Act} {ty : TypeId} {p v : Value} {x : Operand} (ho : o.op = .load ty x) (hx : a.eval x = p) (hr : (Instr.loadAt ty p).run Try.prog w = .ok v w) : (execOp a.eval o).run Try.prog w = .ok (.value v) w := by
  unfold execOp
  simp only [ho, hx, Sem.run_bind, hr, Result.andThen_ok]
  rfl
theorem load_i32s {w : World} {b o : Nat} {A : Option Addr} {n c : Nat} (h : w.cell? ⟨b, o, none⟩ = some (.slice A n c)) : (Instr.loadAt 30 (.pointer (some ⟨b, o, none⟩))).run Try.prog w = .ok (.slice A n c) w := by
  simp [go_sem, h]
theorem store_i32s {w : World} {b o : Nat} {u v : Value} (h : w.cell? ⟨b, o, none⟩ = some u) (hf : w.frozen? ⟨b, o, none⟩ = false) {A : Option Addr} {n c : Nat} (hv : v = .slice A n c := by rfl) : (Instr.storeAt 30 (.pointer (some ⟨b, o, none⟩)) v).run Try.prog w = .ok () (w.setCell ⟨b, o, none⟩ v) := by
  subst hv
  simp [go_sem, h, hf]
/-- The plane is another one, of the call's own. -/
def RetP (B0 : Nat) (ns : List ND) (en tp : Int) (w : World) (e : Ending) (w' : World) : Prop := ∃ B g c W hl ns', e = .returned (.agg (pgL (some ⟨g, 0, none⟩) ns.length c en tp)) ∧ w.heap.size ≤ B ∧ OwnP w' B g c ns.length W hl ns' ∧ Eqv ns ns' ∧ (∀ k, B0 ≤ k → k < w.heap.size → W k) ∧ Below w.heap.size w w'
/-- The rows while they are cloned: of the first j nodes. -/
structure OwnS (B0 : Nat) (w wr : World) (g c j : Nat) (en tp : Int) (ns ns' : List ND) (W : Nat → Prop) (hl : Nat → Nat) : Prop where
  own : OwnP wr (w.heap.size + 2) g c j W hl ns'
  eqv : Eqv ns ns'
  bel : Below w.heap.size w wr
  pl : Blk wr w.heap.size 27 (pgL (some ⟨g, 0, none⟩) ns.length c en tp)
  res : Blk wr (w.heap.size + 1) 27 (pgL none 0 0 0 0)
  w2 : ∀ k, B0 ≤ k → k < w.heap.size + 2 → W k
/-- A row of lists while they are cloned: the first k. -/
structure OwnK (w5 wi : World) (h lc k : Nat) (ls0 ls : List IS) (B : Nat) : Prop where
  row : Rw wi h 23 (lc * 1) (ls.map IS.v)
  len : ls.length = ls0.length
  norm : ls.map IS.norm = ls0.map IS.norm
  done : ∀ q l, q < k → ls[q]? = some l → l.AtS wi (fun b => B ≤ b ∧ b < wi.heap.size ∧ b ≠ h) .i64 ∧ l.n ≤ l.c
  rest : ∀ q, k ≤ q → ls[q]? = ls0[q]?
  tch : Tch (fun b => b = h) w5 wi
theorem OwnK.next {w5 wi w6 : World} {h lc k B n c : Nat} {ls0 ls : List IS} {A : Option Addr} (H : OwnK w5 wi h lc k ls0 ls B) (hB : B ≤ h) {l : IS} (hl : ls0[k]? = some l) (hla : l.AtS wi (fun _ => True) .i64)
    (ho : OwnI w6 wi.heap.size A n c l.xs) (hb : Below wi.heap.size wi w6) : n = l.n ∧ w6.frozen? ⟨h, k, none⟩ = false ∧ (∃ u, w6.cell? ⟨h, k, none⟩ = some u) ∧ OwnK w5 (w6.setCell ⟨h, k, none⟩ (.slice A n c)) h lc (k + 1) ls0 (ls.set k ⟨A, n, c, l.xs⟩) B := by
  have hk : ls[k]? = some l := (H.rest k (Nat.le_refl _)).trans hl
  have hkl := (List.getElem?_eq_some_iff.1 hk).1
  have hn : n = l.n := by rw [← ho.len, ← hla.2.2.1.1, List.length_map]
  have hlt := H.row.lt
  have R6 : Rw w6 h 23 (lc * 1) (ls.map IS.v) := H.row.at_ (hb.block _ hlt)
  have hsz := hb.size
  have hsz2 : (w6.setCell ⟨h, k, none⟩ (.slice A n c)).heap.size = w6.heap.size := by simp [World.setCell]
  have hT6 : Tch (fun b => b = h) w6 (w6.setCell ⟨h, k, none⟩ (.slice A n c)) := Tch.setCell (S := fun b => b = h) (Tch.refl _ _) rfl _ _
  refine ⟨hn, R6.frozen k, ⟨l.v, R6.cell (by rw [List.getElem?_map, hk]; rfl)⟩, ?_, by rw [List.length_set]; exact H.len, ?_, fun q l' hq hl' => ?_, fun q hq => ?_, (H.tch.trans (Tch.of_below hb) (fun _ q => .inl q)).trans hT6 (fun _ q => .inl q)⟩
  · have := R6.set_ k (IS.v ⟨A, n, c, l.xs⟩)
    rw [← List.map_set] at this
    exact this
  · rw [List.map_set, H.norm]
    refine List.ext_getElem? fun q => ?_
    by_cases hq : k = q
    · subst hq
      rw [List.getElem?_set_self (by rw [List.length_map, ← H.len]; exact hkl), List.getElem?_map, hl]
      show _ = some (IS.norm l)
      unfold IS.norm
      rw [hn]
    · rw [List.getElem?_set_ne hq]
  · rw [hsz2]
    by_cases hq2 : k = q
    · subst hq2
      rw [List.getElem?_set_self hkl] at hl'
      injection hl' with hl'
      subst hl'
      have hrd : RdS w6 (fun b => wi.heap.size ≤ b ∧ b < w6.heap.size) A n (l.xs.map (.int .i64)) := by
        refine ⟨by rw [List.length_map]; exact ho.len, fun h0 => ?_⟩
        rcases ho.row with ⟨_, e0, _⟩ | ⟨g, e, hg, _, _, cs, hcs, hln, htk⟩
        · omega
        · refine ⟨g, 0, e, ⟨hg, hcs.ib.lt⟩, fun q u hu => ?_⟩
          rw [List.getElem?_map, Option.map_eq_some_iff] at hu
          obtain ⟨x, hx, rfl⟩ := hu
          have hqn : q < n := by rw [← ho.len]; exact (List.getElem?_eq_some_iff.1 hx).1
          rw [Nat.zero_add, hcs.ib.cell (by omega)]
          congr 2
          rw [← htk, List.getElem?_take, if_pos hqn] at hx
          unfold ig; rw [List.getD_eq_getElem?_getD, hx]; rfl
      have hat : IS.AtS w6 (fun b => wi.heap.size ≤ b ∧ b < w6.heap.size) .i64 ⟨A, n, c, l.xs⟩ := ⟨ho.none_, by show n ≤ _; rw [hn]; exact hla.2.1, hrd, hla.2.2.2⟩
      refine ⟨(hat.tch hT6 fun b hb => ⟨hb.2, by omega⟩).mono fun b hb => ⟨by have := H.tch.size; omega, hb.2, by omega⟩, ?_⟩
      show n ≤ c
      rcases ho.row with ⟨_, e0, _⟩ | ⟨g, e, hg, h9, _⟩
      · omega
      · exact h9
    · rw [List.getElem?_set_ne hq2] at hl'
      obtain ⟨a1, a2⟩ := H.done q l' (by omega) hl'
      refine ⟨((a1.tch (Tch.of_below (S := fun _ => False) hb) fun b hb => ⟨hb.2.1, fun h => h⟩).mono (S' := fun b => B ≤ b ∧ b < w6.heap.size ∧ b ≠ h) fun b hb => ⟨hb.1, by omega, hb.2.2⟩).tch hT6 fun b hb => ⟨hb.2.1, hb.2.2⟩, a2⟩
  · rw [List.getElem?_set_ne (by omega)]
    exact H.rest q (by omega)
/-- The lists of the next node are the call's own. -/
theorem OwnS.lists {w wr w5 wi : World} {B0 g c j h c5 : Nat} {en tp : Int} {ns ns' : List ND} {W : Nat → Prop} {hl : Nat → Nat} (H : OwnS B0 w wr g c j en tp ns ns' W hl) {d : ND} (hd : ns'[j]? = some d) (b5 : Below wr.heap.size wr w5) {A5 : Option Addr} {ls : List IS}
    (hA : A5 = none ↔ d.LA = none) (hlen : ls.length = d.ln) (hnorm : ls.map IS.norm = d.ls.map IS.norm) (h0 : d.ln = 0 → wi = w5 ∧ c5 = c5) (hz : A5 = none → c5 = 0)
    (h1 : 0 < d.ln → A5 = some ⟨h, 0, none⟩ ∧ wr.heap.size ≤ h ∧ h < w5.heap.size ∧ d.ln ≤ c5 ∧ OwnK w5 wi h c5 d.ln d.ls ls wr.heap.size) :
    wi.cell? ⟨w.heap.size, 0, none⟩ = some (.slice (some ⟨g, 0, none⟩) ns.length c) ∧ wi.cell? ⟨g, j * 7 + 4, none⟩ = some (.slice d.LA d.ln d.lc) ∧ wi.frozen? ⟨g, j * 7 + 4, none⟩ = false ∧
    ∃ W' hl', OwnS B0 w (wi.setCell ⟨g, j * 7 + 4, none⟩ (.slice A5 d.ln c5)) g c (j + 1) en tp ns (ns'.set j ⟨d.id, d.vec, d.tags, d.level, A5, d.ln, c5, ls, d.next, d.prev⟩) W' hl' := by
  have bi : Below wr.heap.size wr wi := by
    by_cases hp : 0 < d.ln
    · obtain ⟨_, q1, q2, _, K⟩ := h1 hp
      exact b5.trans (K.tch.below b5.size (by rintro k rfl; exact q1))
    · rw [(h0 (by omega)).1]; exact b5
  have hj := (List.getElem?_eq_some_iff.1 hd).1
  have hnd := H.own.nd j d hd
  have hsz := H.bel.size
  have hszi := bi.size
  have hgl := H.own.row.lt
  have hgB := H.own.gB
  have P := H.pl.below bi H.pl.lt
  have R := H.res.below bi H.res.lt
  have Rg : Rw wi g 49 (c * 7) (flat ns') := H.own.row.at_ (bi.block _ hgl)
  refine ⟨P.cell 0, Rg.cell (flat_get2 hd 4 (by decide)), Rg.frozen _, ?_⟩
  have hT : Tch (fun k => k = g) wr (wi.setCell ⟨g, j * 7 + 4, none⟩ (.slice A5 d.ln c5)) := Tch.setCell (S := fun k => k = g) (Tch.of_below bi) rfl _ _
  have hsz2 : (wi.setCell ⟨g, j * 7 + 4, none⟩ (.slice A5 d.ln c5)).heap.size = wi.heap.size := by simp [World.setCell]
  have hTi : Tch (fun k => k = g) wi (wi.setCell ⟨g, j * 7 + 4, none⟩ (.slice A5 d.ln c5)) := Tch.setCell (S := fun k => k = g) (Tch.refl _ _) rfl _ _
  have hwn : ∀ b, b < wr.heap.size ∧ ¬ W b → b < wr.heap.size ∧ ¬ b = g := fun b hb => ⟨hb.1, fun e => hb.2 (e ▸ H.own.wg)⟩
  have hAl : ∀ l ∈ ls, l.AtS wi (fun b => wr.heap.size ≤ b ∧ b < wi.heap.size ∧ b ≠ h) .i64 ∧ l.n ≤ l.c := by
    intro l hl
    obtain ⟨q, hq, rfl⟩ := List.mem_iff_getElem.1 hl
    exact (h1 (by omega)).2.2.2.2.done q _ (by omega) (List.getElem?_eq_getElem hq)
  obtain ⟨W', hl', O, hW⟩ := H.own.step (w' := wi.setCell ⟨g, j * 7 + 4, none⟩ (.slice A5 d.ln c5)) hT (i := j) (d' := ⟨d.id, d.vec, d.tags, d.level, A5, d.ln, c5, ls, d.next, d.prev⟩) (m' := j + 1) hj (.inr ⟨rfl, rfl⟩) (by omega) (by have := H.res.lt; omega)
    (by
      have := Rg.set_ (j * 7 + 4) (.slice A5 d.ln c5)
      rw [flat_set (k := 4) (d' := ⟨d.id, d.vec, d.tags, d.level, A5, d.ln, c5, ls, d.next, d.prev⟩) hd (by decide) rfl] at this
      exact this)
    (by
      refine ⟨(hnd.1.tch hT hwn).mono fun b hb => ⟨by omega, .inl hb⟩, fun e => ⟨(hnd.2.1 (hA.1 e)).1, hz e⟩, hnd.2.2.1, hlen, fun l hl => ?_, hnd.2.2.2.2.2.1, hnd.2.2.2.2.2.2.1, hnd.2.2.2.2.2.2.2.1, hnd.2.2.2.2.2.2.2.2.1, fun l hl => (hAl l hl).2⟩
      refine ((hAl l hl).1.tch hTi fun b hb => ⟨hb.2.1, by omega⟩).mono fun b hb => ⟨by omega, .inr ⟨hb.1, ?_⟩⟩
      intro e
      have hp : 0 < d.ln := by rw [← hlen]; exact List.length_pos_of_mem hl
      rw [(h1 hp).1] at e
      injection e with e
      injection e with e
      exact hb.2.2 e.symm)
    (fun hp => by
      obtain ⟨q1, q2, q3, q4, K⟩ := h1 hp
      exact ⟨h, q1, q2, q4, K.row.at_ (Below.heap_setCell _ _ _ _ (by show h ≠ g; omega))⟩)
  exact ⟨W', hl', O, H.eqv.set1 hd (by unfold ND.norm; rw [hnorm]), (H.bel.trans (bi.mono hsz)).setCell (by show w.heap.size ≤ g; omega) _, P.far (by show w.heap.size ≠ g; omega) _, R.far (by show w.heap.size + 1 ≠ g; omega) _, fun k q1 q2 => hW _ (H.w2 k q1 q2)⟩
theorem load_i32s' {w : World} {b o : Nat} {v : IS} (h : w.cell? ⟨b, o, none⟩ = some v.v) : (Instr.loadAt 30 (.pointer (some ⟨b, o, none⟩))).run Try.prog w = .ok (.slice v.A v.n v.c) w := load_i32s h
/-- .. and its vector. -/
theorem OwnS.vec {w wr Z : World} {B0 g c j m : Nat} {en tp : Int} {ns ns' : List ND} {W : Nat → Prop} {hl : Nat → Nat} (H : OwnS B0 w wr g c m en tp ns ns' W hl) {d : ND} (hd : ns'[j]? = some d) {A9 : Option Addr} {c9 : Nat}
    (ho : Z.ownsRow wr.heap.size 21 1 (.slice A9 d.vec.n c9) d.vec.n (d.vec.xs.map (.int .i32))) (hb : Below wr.heap.size wr Z) :
    Z.cell? ⟨g, j * 7 + 1, none⟩ = some d.vec.v ∧ Z.frozen? ⟨g, j * 7 + 1, none⟩ = false ∧ (Z.setCell ⟨g, j * 7 + 1, none⟩ (.slice A9 d.vec.n c9)).cell? ⟨w.heap.size, 0, none⟩ = some (.slice (some ⟨g, 0, none⟩) ns.length c) ∧
    OwnS B0 w (Z.setCell ⟨g, j * 7 + 1, none⟩ (.slice A9 d.vec.n c9)) g c m en tp ns (ns'.set j ⟨d.id, ⟨A9, d.vec.n, c9, d.vec.xs⟩, d.tags, d.level, d.LA, d.ln, d.lc, d.ls, d.next, d.prev⟩) W hl := by
  have hnd := H.own.nd j d hd
  have hsz := H.bel.size
  have hszi := hb.size
  have hgl := H.own.row.lt
  have hgB := H.own.gB
  have P := H.pl.below hb H.pl.lt
  have R := H.res.below hb H.res.lt
  have Rg : Rw Z g 49 (c * 7) (flat ns') := H.own.row.at_ (hb.block _ hgl)
  have P2 := P.far (p := ⟨g, j * 7 + 1, none⟩) (by show w.heap.size ≠ g; omega) (.slice A9 d.vec.n c9)
  have hT : Tch (fun k => k = g) wr (Z.setCell ⟨g, j * 7 + 1, none⟩ (.slice A9 d.vec.n c9)) := Tch.setCell (S := fun k => k = g) (Tch.of_below hb) rfl _ _
  have hTi : Tch (fun k => k = g) Z (Z.setCell ⟨g, j * 7 + 1, none⟩ (.slice A9 d.vec.n c9)) := Tch.setCell (S := fun k => k = g) (Tch.refl _ _) rfl _ _
  have hsz2 : (Z.setCell ⟨g, j * 7 + 1, none⟩ (.slice A9 d.vec.n c9)).heap.size = Z.heap.size := by simp [World.setCell]
  have hwn : ∀ b, b < wr.heap.size ∧ ¬ W b → b < wr.heap.size ∧ ¬ b = g := fun b hb => ⟨hb.1, fun e => hb.2 (e ▸ H.own.wg)⟩
  refine ⟨Rg.cell (flat_get2 hd 1 (by decide)), Rg.frozen _, P2.cell 0, ?_, H.eqv.set1 hd ?_, (H.bel.trans (hb.mono hsz)).setCell (by show w.heap.size ≤ g; omega) _, P2, R.far (by show w.heap.size + 1 ≠ g; omega) _, H.w2⟩
  · refine H.own.same (w' := Z.setCell ⟨g, j * 7 + 1, none⟩ (.slice A9 d.vec.n c9)) hT hd ?_ ⟨rfl, rfl, rfl, rfl⟩ ?_
    · have := Rg.set_ (j * 7 + 1) (.slice A9 d.vec.n c9)
      rw [flat_set (k := 1) (u := .slice A9 d.vec.n c9) (d' := ⟨d.id, ⟨A9, d.vec.n, c9, d.vec.xs⟩, d.tags, d.level, d.LA, d.ln, d.lc, d.ls, d.next, d.prev⟩) hd (by decide) rfl] at this
      exact this
    · refine ⟨?_, hnd.2.1, hnd.2.2.1, hnd.2.2.2.1, fun l hl => ((hnd.2.2.2.2.1 l hl).tch hT hwn).mono fun b hb => ⟨by omega, .inl hb⟩, hnd.2.2.2.2.2⟩
      refine ⟨fun e => ?_, hnd.1.2.1, ?_, hnd.1.2.2.2⟩
      · rcases ho.2 with ⟨q, q0⟩ | ⟨x, cap, cur, q, _⟩
        · injection q with _ q2 q3; exact ⟨q2, q3⟩
        · injection q with q1 _ _; exact absurd (e.symm.trans q1) (by simp)
      · refine ⟨by simpa using ho.1, fun h0 => ?_⟩
        obtain ⟨x, e, hx, _, _, hr⟩ := Rw.of_own ho h0
        have hxl := hr.lt
        refine ⟨x, 0, e, ⟨by omega, .inr hx⟩, fun q u hu => ?_⟩
        rw [Nat.zero_add]
        exact (hTi.cell (p := ⟨x, q, none⟩) hxl (by show ¬ x = g; omega)).trans (hr.cell hu)
  · unfold ND.norm IS.norm; rfl
theorem planeZ : pgL none 0 0 0 0 = #[.slice none 0 0, .int .i64 0, .int .i64 0] := rfl
set_option maxRecDepth 100000 in
set_option maxHeartbeats 1000000 in
theorem pl_own (A : Option Addr) (n c : Nat) (ns : List ND) (en tp : Int) (w : World) (B0 : Nat) (hg0 : PgAt w B0 A n c ns) (h00 : B0 ≤ w.heap.size) (h0 : 0 < n) :
    Calls Try.prog 23 #[.agg (pgL A n c en tp)] w (RetP B0 ns en tp w) := by
  have hg := hg0.more h00
  obtain ⟨w2, hw2⟩ : ∃ x, (w.alloc (.cells (pgL A n c en tp) 27)).alloc (.cells (pgL none 0 0 0 0) 27) = x := ⟨_, rfl⟩
  have s1 : (w.alloc (.cells (pgL A n c en tp) 27)).heap.size = w.heap.size + 1 := by simp only [World.alloc, Array.size_push]
  have k1 : Blk w2 w.heap.size 27 (pgL A n c en tp) := by rw [← hw2]; exact (Blk.new _ _ _).alloc _
  have k2 : Blk w2 (w.heap.size + 1) 27 (pgL none 0 0 0 0) := by rw [← hw2, ← s1]; exact Blk.new _ _ _
  have b2 : Below w.heap.size w w2 := by rw [← hw2]; exact (bel_box w _).alloc (by rw [s1]; omega) _
  have s2 : w2.heap.size = w.heap.size + 2 := by rw [← hw2]; simp only [World.alloc, Array.size_push]
  have HCN := Lib.hid (sl_cloneN A n c ns w2 (hg.on b2 b2.size))
  have hn := hg.2.1
  have HL := Lib.hid hg.len
  have HG := Lib.hid hg0
  have HK1 := Lib.hid k1
  have HK2 := Lib.hid k2
  have HB2 := Lib.hid b2
  have HS2 := Lib.hid s2
  have c0 : w2.cell? ⟨w.heap.size, 0, none⟩ = some (.slice A n c) := k1.cell 0
  have f0 : w2.frozen? ⟨w.heap.size, 0, none⟩ = false := k1.frozen 0
  clear hg hg0 k1 k2 b2 s1 s2
  rw [planeZ] at hw2
  unfold pgL at hw2 ⊢
  go_enter Try.func23, Try.ntmps23
  go_upto_region 1 with fail
  (try rw [hw2])
  clear hw2
  go_upto_region 2 with (go_at_call 42; (with_reducible refine HCN.out.mono ?_); rintro e w3 ⟨A3, c3, rfl, ho3, hA3, b3⟩; have HO3 := Lib.hid ho3; have HB3 := Lib.hid b3; have d0 : w3.cell? ⟨w.heap.size, 0, none⟩ = some (.slice A n c) := (HK1.out.below b3 HK1.out.lt).cell 0; have f1 : w3.frozen? ⟨w.heap.size, 0, none⟩ = false := (HK1.out.below b3 HK1.out.lt).frozen 0; clear ho3 hA3 b3)
  obtain ⟨w4, hw4⟩ : ∃ x, w3.setCell ⟨w.heap.size, 0, none⟩ (.slice A3 n c3) = x := ⟨_, rfl⟩
  have hST : ∃ g, A3 = some ⟨g, 0, none⟩ ∧ OwnS B0 w w4 g c3 0 en tp ns ns (fun k => B0 ≤ k ∧ k < w3.heap.size) (fun _ => 0) := by
    have hb : Below w.heap.size w w3 := HB2.out.trans (HB3.out.mono HB2.out.size)
    have h3 := HB3.out.size
    have hs2 := HS2.out
    obtain ⟨g, e, ho⟩ := OwnP.start HG.out h00 h0 HB2.out.size HO3.out hb
    have hT : Tch (fun k => k = w.heap.size) w3 w4 := by rw [← hw4]; exact Tch.setCell (S := fun k => k = w.heap.size) (Tch.refl _ _) rfl _ _
    rw [hs2] at ho
    refine ⟨g, e, ho.off hT ⟨h00, by omega⟩ (by omega), Eqv.refl _, ?_, ?_, ?_, fun k q1 q2 => ⟨q1, by omega⟩⟩
    · rw [← hw4]; exact hb.setCell (Nat.le_refl _) _
    · have := (HK1.out.below HB3.out HK1.out.lt).set_ 0 (.slice A3 n c3)
      rw [hw4, e] at this
      have hl := HL.out
      rw [hl]
      exact this
    · rw [← hw4]
      exact (HK2.out.below HB3.out HK2.out.lt).far (by show w.heap.size + 1 ≠ w.heap.size; omega) _
  obtain ⟨g, rfl, hS0⟩ := hST
  have HS0 := Lib.hid hS0
  clear c0 f0 d0 f1 hS0 HCN HK1 HK2 HB2 HS2 HO3 HB3
  simp only [hw4]
  clear hw4
  have x0 : w4.cell? ⟨w.heap.size, 0, none⟩ = some (.slice (some ⟨g, 0, none⟩) n c3) := by rw [← HL.out]; exact HS0.out.pl.cell 0
  go_wp2_with fail
  go_loopw [13] (fun s13 wr => ∃ j : Nat, j ≤ n ∧ s13 = .int .i64 j ∧ Hid (∃ ns' W hl, OwnS B0 w wr g c3 j en tp ns ns' W hl)) (fun s13 _ => n - (intOf s13).toNat)
  case atStart => exact ⟨0, Nat.zero_le _, rfl, Lib.hid ⟨_, _, _, HS0.out⟩⟩
  case round =>
    obtain ⟨j, hj, rfl, hs⟩ := hrel
    obtain ⟨ns', W, hl, H0⟩ := hs.out
    have H := Lib.hid H0
    clear hs H0
    clear x0
    have x0 : wr.cell? ⟨w.heap.size, 0, none⟩ = some (.slice (some ⟨g, 0, none⟩) n c3) := by rw [← HL.out]; exact H.out.pl.cell 0
    by_cases hlj : j < n
    · have hjl : j < ns'.length := by have h1 := H.out.eqv.len; have h2 := HL.out; omega
      obtain ⟨d, hd⟩ : ∃ d, ns'[j]? = some d := ⟨_, List.getElem?_eq_getElem hjl⟩
      have HD := Lib.hid hd
      have HDA := Lib.hid (H.out.own.node hd)
      have x4 : wr.cell? ⟨g, j * 7 + 4, none⟩ = some (.slice d.LA d.ln d.lc) := H.out.own.row.cell (flat_get2 hd 4 (by decide))
      have HCL := Lib.hid (sl_cloneL d.LA d.ln d.lc d.ls wr HDA.out.2.2.2.1 HDA.out.2.2.1 HDA.out.2.1)
      have hlm := HDA.out.2.2.1
      clear hd hjl
      go_wp2_with (go_at_call 43; (with_reducible refine HCL.out.mono ?_); rintro e w5 ⟨A5, c5, rfl, ho5, hA5, b5⟩; have HO5 := Lib.hid ho5; have HA5 := Lib.hid hA5; have HB5 := Lib.hid b5; clear ho5 hA5 b5)
      obtain ⟨h, hh⟩ : ∃ h, (0 < d.ln → A5 = some ⟨h, 0, none⟩ ∧ wr.heap.size ≤ h ∧ h < w5.heap.size ∧ d.ln ≤ c5 ∧ OwnK w5 w5 h c5 0 d.ls d.ls wr.heap.size) := by
        by_cases hp : 0 < d.ln
        · obtain ⟨h, e, q1, q2, _, q4⟩ := Rw.of_own HO5.out hp
          exact ⟨h, fun _ => ⟨e, q1, q4.lt, q2, q4, rfl, rfl, fun q l hq => absurd hq (by omega), fun q _ => rfl, Tch.refl _ _⟩⟩
        · exact ⟨0, fun q => absurd q hp⟩
      have HH := Lib.hid hh
      clear hh x0 x4
      obtain ⟨wo, rfl⟩ : ∃ wo : World, wo = wr := ⟨_, rfl⟩
      go_loopw [25] (fun s25 wr => ∃ k : Nat, k ≤ d.ln ∧ s25 = .int .i64 k ∧ Hid (∃ ls : List IS, (d.ln = 0 → wr = w5 ∧ ls = d.ls) ∧ (0 < d.ln → OwnK w5 wr h c5 k d.ls ls wo.heap.size))) (fun s25 _ => d.ln - (intOf s25).toNat)
      case atStart => exact ⟨0, Nat.zero_le _, rfl, Lib.hid ⟨d.ls, fun _ => ⟨rfl, rfl⟩, fun hp => (HH.out hp).2.2.2.2⟩⟩
      case round =>
        obtain ⟨k, hk, rfl, hks⟩ := hrel
        obtain ⟨ls, h0, h1⟩ := hks.out
        by_cases hlk : k < d.ln
        · obtain ⟨e5, q1, q2, q3, _⟩ := HH.out (by omega)
          have K := h1 (by omega)
          subst e5
          have hkl : k < d.ls.length := by rw [HDA.out.len]; exact hlk
          obtain ⟨l, hl0⟩ : ∃ l, d.ls[k]? = some l := ⟨_, List.getElem?_eq_getElem hkl⟩
          have hla := HDA.out.2.2.2.2.1 l (List.mem_of_getElem? hl0)
          have bi : Below wo.heap.size wo wr := HB5.out.trans (K.tch.below HB5.out.size (by rintro k rfl; exact q1))
          have hcl := sl_clone l.A l.n l.c l.xs wr ((hla.2.2.1.below bi).more bi.size) hla.1 (by have := hla.2.1; omega)
          have hlt : l.AtS wr (fun _ => True) .i64 := ((hla.below bi).s).mono fun _ _ => trivial
          have xk : wr.cell? ⟨h, k, none⟩ = some (.slice l.A l.n l.c) := K.row.cell (by rw [List.getElem?_map, K.rest k (Nat.le_refl _), hl0]; rfl)
          have fk : wr.frozen? ⟨h, k, none⟩ = false := K.row.frozen k
          have HCI := Lib.hid hcl
          have HNX := Lib.hid (fun (A : Option Addr) (n c : Nat) (w6 : World) (ho : OwnI w6 wr.heap.size A n c l.xs) (hb : Below wr.heap.size wr w6) => K.next (A := A) (n := n) (c := c) (w6 := w6) q1 hl0 hlt ho hb)
          clear hkl hl0 hla bi hcl hlt K h0 h1 hks q1 q2 q3
          go_wp2_with (go_at_call 27; (with_reducible refine HCI.out.mono ?_); rintro e w6 ⟨A6, n6, c6, rfl, ho6, b6⟩; obtain ⟨e6, f6, ⟨u6, x6⟩, K6⟩ := HNX.out A6 n6 c6 w6 ho6 b6; have HK6 := Lib.hid K6; have HE6 := Lib.hid e6; clear ho6 b6 e6 K6)
          go_roundw
          case rel => exact ⟨k + 1, by omega, by go_num, Lib.hid ⟨_, fun q => absurd q (by omega), fun _ => HK6.out⟩⟩
          case measure => simp [intOf]; omega
        · obtain rfl : k = d.ln := by omega
          have hstep := H.out.lists (h := h) (wi := wr) (c5 := c5) (A5 := A5) (ls := ls) HD.out HB5.out HA5.out
            (by
              by_cases hp : 0 < d.ln
              · rw [(h1 hp).len, HDA.out.len]
              · rw [(h0 (by omega)).2, HDA.out.len])
            (by
              by_cases hp : 0 < d.ln
              · exact (h1 hp).norm
              · rw [(h0 (by omega)).2])
            (fun e => ⟨(h0 e).1, rfl⟩)
            (by
              intro e
              rcases HO5.out.2 with ⟨q, _⟩ | ⟨x, cap, cur, q, _⟩
              · injection q with _ q2 q3
              · injection q with q1 _ _; exact absurd (e.symm.trans q1) (by simp))
            (fun hp => by obtain ⟨q1, q2, q3, q4, _⟩ := HH.out hp; exact ⟨q1, q2, q3, q4, h1 hp⟩)
          rw [HL.out] at hstep
          obtain ⟨y0, y4, f4, W', hl', HS8⟩ := hstep
          have HS8 := Lib.hid HS8
          clear h0 h1 hks HH
          go_upto_region 12 with fail
          obtain ⟨W8, hW8⟩ : ∃ x, wr.setCell ⟨g, j * 7 + 4, none⟩ (.slice A5 d.ln c5) = x := ⟨_, rfl⟩
          rw [hW8] at HS8 ⊢
          clear hW8 y0 y4 f4
          have hjl : j < ns'.length := (List.getElem?_eq_some_iff.1 HD.out).1
          have hd8 : (ns'.set j ⟨d.id, d.vec, d.tags, d.level, A5, d.ln, c5, ls, d.next, d.prev⟩)[j]? = some ⟨d.id, d.vec, d.tags, d.level, A5, d.ln, c5, ls, d.next, d.prev⟩ := List.getElem?_set_self hjl
          have hv8 : W8.drew.cell? ⟨g, 0 + j * 7 + 1, none⟩ = some (.slice d.vec.A d.vec.n d.vec.c) := by
            rw [Nat.zero_add]
            exact HS8.out.own.row.cell (flat_get2 hd8 1 (by decide))
          have k8 : W8.drew.cell? ⟨w.heap.size, 0, none⟩ = some (.slice (some ⟨g, 0, none⟩) n c3) := by rw [← HL.out]; exact HS8.out.pl.cell 0
          have hnd8 := HS8.out.own.node hd8
          have HVC := Lib.hid (fun (Y : World) (hY : Below W8.heap.size W8 Y) => sl_cloneV d.vec.A d.vec.n d.vec.c d.vec.xs Y ((hnd8.1.2.2.1.below hY).more hY.size) hnd8.1.2.1 hnd8.1.1)
          have HT1 : Hid (∀ Z1, Below W8.drew.heap.size W8.drew Z1 → Z1.cell? ⟨w.heap.size, 0, none⟩ = some (.slice (some ⟨g, 0, none⟩) n c3)) := fun Z1 b9 => (b9.cell (p := ⟨w.heap.size, 0, none⟩) HS8.out.pl.lt).trans k8
          have HT9 : Hid (∀ Z1 A9 c9, Z1.ownsRow W8.drew.heap.size 21 1 (.slice A9 d.vec.n c9) d.vec.n (d.vec.xs.map (.int .i32)) → (A9 = none ↔ d.vec.A = none) → Below W8.drew.heap.size W8.drew Z1 →
              Z1.cell? ⟨g, 0 + j * 7 + 1, none⟩ = some d.vec.v ∧ Z1.frozen? ⟨g, 0 + j * 7 + 1, none⟩ = false ∧ (Z1.setCell ⟨g, 0 + j * 7 + 1, none⟩ (.slice A9 d.vec.n c9)).cell? ⟨w.heap.size, 0, none⟩ = some (.slice (some ⟨g, 0, none⟩) n c3) ∧
              ∃ ns'' W'' hl'', OwnS B0 w (Z1.setCell ⟨g, 0 + j * 7 + 1, none⟩ (.slice A9 d.vec.n c9)) g c3 (j + 1) en tp ns ns'' W'' hl'') := by
            intro Z1 A9 c9 ho _ hb
            have := HS8.out.vec hd8 ho ((below_drewN (Below.refl _ W8) 1).trans hb)
            rw [HL.out] at this
            rw [Nat.zero_add]
            exact ⟨this.1, this.2.1, this.2.2.1, _, _, _, this.2.2.2⟩
          have hjn : j < n := hlj
          clear hd8 hnd8
          refine wp_region_held_drew (S := fun w' => w'.cell? ⟨w.heap.size, 0, none⟩ = some (.slice (some ⟨g, 0, none⟩) n c3)) (by kernel_rfl) k8 (fun hH => ?_)
          refine wpAnyH_take (i := 0) (v := .pointer (some ⟨w.heap.size, 0, none⟩)) rfl (by kernel_rfl) (by kernel_rfl) (by kernel_rfl) (fun _ _ _ h => h) (.inl ⟨by rfl, fun _ _ => by kernel_rfl⟩) hH ?_
          (try simp only [List.getElem_toArray, List.getElem_cons_zero, Act.put, List.setIfInBounds_toArray, List.set_cons_zero, List.set_cons_succ])
          refine wpAnyH_take (i := 1) (v := .slice (some ⟨g, 0, none⟩) n c3) rfl (by kernel_rfl) (by kernel_rfl) (by kernel_rfl) (fun _ _ _ h => h) (yieldsIf_loadP (by rfl) _ rfl rfl (fun _ q => load_nodes q)) hH ?_
          (try simp only [List.getElem_toArray, List.getElem_cons_zero, List.getElem_cons_succ, Act.put, List.setIfInBounds_toArray, List.set_cons_zero, List.set_cons_succ])
          refine wpAnyH_take (i := 2) (v := .int .i64 (j : Int)) rfl (by kernel_rfl) (by kernel_rfl) (by kernel_rfl) (fun _ _ _ h => h) (.inl ⟨by rfl, fun _ _ => by kernel_rfl⟩) hH ?_
          (try simp only [List.getElem_toArray, List.getElem_cons_zero, List.getElem_cons_succ, Act.put, List.setIfInBounds_toArray, List.set_cons_zero, List.set_cons_succ])
          refine wpAnyH_take (i := 3) (v := .pointer (some ⟨w.heap.size, 0, none⟩)) rfl (by kernel_rfl) (by kernel_rfl) (by kernel_rfl) (fun _ _ _ h => h) (.inl ⟨by rfl, fun _ _ => by kernel_rfl⟩) hH ?_
          (try simp only [List.getElem_toArray, List.getElem_cons_zero, List.getElem_cons_succ, Act.put, List.setIfInBounds_toArray, List.set_cons_zero, List.set_cons_succ])
          refine wpAnyH_take (i := 4) (v := .slice (some ⟨g, 0, none⟩) n c3) rfl (by kernel_rfl) (by kernel_rfl) (by kernel_rfl) (fun _ _ _ h => h) (yieldsIf_loadP (by rfl) _ rfl rfl (fun _ q => load_nodes q)) hH ?_
          (try simp only [List.getElem_toArray, List.getElem_cons_zero, List.getElem_cons_succ, Act.put, List.setIfInBounds_toArray, List.set_cons_zero, List.set_cons_succ])
          refine wpAnyH_take (i := 5) (v := .int .i64 (j : Int)) rfl (by kernel_rfl) (by kernel_rfl) (by kernel_rfl) (fun _ _ _ h => h) (.inl ⟨by rfl, fun _ _ => by kernel_rfl⟩) hH ?_
          (try simp only [List.getElem_toArray, List.getElem_cons_zero, List.getElem_cons_succ, Act.put, List.setIfInBounds_toArray, List.set_cons_zero, List.set_cons_succ])
          refine wpAnyH_take (i := 6) (v := .pointer (some ⟨g, 0 + j * 7, none⟩)) rfl (by kernel_rfl) (by kernel_rfl) (by kernel_rfl) (fun _ _ _ h => h) (yieldsIf_index Try.underlying25 sz_node (by rfl) _ _ rfl rfl rfl hjn) hH ?_
          (try simp only [List.getElem_toArray, List.getElem_cons_zero, List.getElem_cons_succ, Act.put, List.setIfInBounds_toArray, List.set_cons_zero, List.set_cons_succ])
          refine wpAnyH_take (i := 7) (v := .pointer (some ⟨g, 0 + j * 7, none⟩)) rfl (by kernel_rfl) (by kernel_rfl) (by kernel_rfl) (fun _ _ _ h => h) (.inl ⟨by rfl, fun _ _ => by kernel_rfl⟩) hH ?_
          (try simp only [List.getElem_toArray, List.getElem_cons_zero, List.getElem_cons_succ, Act.put, List.setIfInBounds_toArray, List.set_cons_zero, List.set_cons_succ])
          refine wpAnyH_take (i := 8) (v := .pointer (some ⟨g, 0 + j * 7 + 1, none⟩)) rfl (by kernel_rfl) (by kernel_rfl) (by kernel_rfl) (fun _ _ _ h => h) (.inl ⟨by rfl, fun _ _ => by kernel_rfl⟩) hH ?_
          (try simp only [List.getElem_toArray, List.getElem_cons_zero, List.getElem_cons_succ, Act.put, List.setIfInBounds_toArray, List.set_cons_zero, List.set_cons_succ])
          refine wpAnyH_value 9 (.slice d.vec.A d.vec.n d.vec.c) (by kernel_rfl) (by rfl) (by kernel_rfl) (exec_load (by rfl) (by rfl) (load_i32s hv8)) hH ?_
          (try simp only [List.getElem_toArray, List.getElem_cons_zero, List.getElem_cons_succ, Act.put, List.setIfInBounds_toArray, List.set_cons_zero, List.set_cons_succ])
          refine wpAnyH_call 10 24 #[.slice d.vec.A d.vec.n d.vec.c] _ (by kernel_rfl) (by rfl) (by kernel_rfl) (by kernel_rfl) (HVC.out W8.drew (below_drewN (Below.refl _ W8) 1)) ?_
          rintro e Z1 ⟨A9, c9, rfl, ho9, hA9, b9⟩
          have hZ : Z1.cell? ⟨w.heap.size, 0, none⟩ = some (.slice (some ⟨g, 0, none⟩) n c3) := HT1.out Z1 b9
          refine ⟨_, rfl, hZ, ?_⟩
          clear hH
          (try simp only [List.getElem_toArray, List.getElem_cons_zero, List.getElem_cons_succ, Act.put, List.setIfInBounds_toArray, List.set_cons_zero, List.set_cons_succ])
          refine wpAnyH_take (i := 11) (v := .pointer (some ⟨g, 0 + j * 7, none⟩)) rfl (by kernel_rfl) (by kernel_rfl) (by kernel_rfl) (fun _ _ _ h => h) (yieldsIf_index Try.underlying25 sz_node (by rfl) _ _ rfl rfl rfl hjn) hZ ?_
          (try simp only [List.getElem_toArray, List.getElem_cons_zero, List.getElem_cons_succ, Act.put, List.setIfInBounds_toArray, List.set_cons_zero, List.set_cons_succ])
          refine wpAnyH_take (i := 12) (v := .pointer (some ⟨g, 0 + j * 7, none⟩)) rfl (by kernel_rfl) (by kernel_rfl) (by kernel_rfl) (fun _ _ _ h => h) (.inl ⟨by rfl, fun _ _ => by kernel_rfl⟩) hZ ?_
          (try simp only [List.getElem_toArray, List.getElem_cons_zero, List.getElem_cons_succ, Act.put, List.setIfInBounds_toArray, List.set_cons_zero, List.set_cons_succ])
          refine wpAnyH_take (i := 13) (v := .pointer (some ⟨g, 0 + j * 7 + 1, none⟩)) rfl (by kernel_rfl) (by kernel_rfl) (by kernel_rfl) (fun _ _ _ h => h) (.inl ⟨by rfl, fun _ _ => by kernel_rfl⟩) hZ ?_
          (try simp only [List.getElem_toArray, List.getElem_cons_zero, List.getElem_cons_succ, Act.put, List.setIfInBounds_toArray, List.set_cons_zero, List.set_cons_succ])
          have hT9 := HT9.out Z1 A9 c9 ho9 hA9 b9
          have SR : (Instr.storeAt 30 (.pointer (some ⟨g, 0 + j * 7 + 1, none⟩)) (.slice A9 d.vec.n c9)).run Try.prog Z1 = .ok () (Z1.setCell ⟨g, 0 + j * 7 + 1, none⟩ (.slice A9 d.vec.n c9)) := store_i32s hT9.1 hT9.2.1
          have SK : (Z1.setCell ⟨g, 0 + j * 7 + 1, none⟩ (.slice A9 d.vec.n c9)).cell? ⟨w.heap.size, 0, none⟩ = some (.slice (some ⟨g, 0, none⟩) n c3) := hT9.2.2.1
          have HT99 := Lib.hid hT9.2.2.2
          clear hT9
          refine wpAnyH_store 14 _ _ _ (by kernel_rfl) (by rfl) (by kernel_rfl) (by rfl) (by rfl) (by rfl) (SR) (SK) ?_
          refine wpAnyH_done (by kernel_rfl) ?_ _
          rw [Nat.zero_add] at HT99
          go_wp2_with fail
          go_roundw
          case rel => exact ⟨j + 1, by omega, by go_num, HT99⟩
          case measure => simp [intOf]; omega
    · obtain rfl : j = n := by omega
      have LP := plane_load H.out.pl
      have SR := row_store H.out.res (pgL (some ⟨g, 0, none⟩) ns.length c3 en tp) rfl planeT (by simp [pgL, Value.oneCell'])
      rw [HL.out] at LP SR
      have HK : Hid (Blk (wr.setCells (w.heap.size + 1) 0 (pgL (some ⟨g, 0, none⟩) j c3 en tp).toList) (w.heap.size + 1) 27 (pgL (some ⟨g, 0, none⟩) j c3 en tp)) := H.out.res.put _ rfl
      have HF : Hid (OwnP (wr.setCells (w.heap.size + 1) 0 (pgL (some ⟨g, 0, none⟩) j c3 en tp).toList) (w.heap.size + 2) g c3 j W hl ns' ∧ Below w.heap.size w (wr.setCells (w.heap.size + 1) 0 (pgL (some ⟨g, 0, none⟩) j c3 en tp).toList)) :=
        ⟨H.out.own.off (x := w.heap.size + 1) (Tch.setCells (S := fun k => k = w.heap.size + 1) rfl _ _ _ (Tch.refl _ _)) (H.out.w2 _ (by omega) (by omega)) (by omega), below_setCells H.out.bel (Nat.le_refl _) (by omega) _ _⟩
      have HE := Lib.hid H.out.eqv
      have HW : Hid (∀ k, B0 ≤ k → k < w.heap.size → W k) := fun k q1 q2 => H.out.w2 k q1 (by omega)
      obtain ⟨wz, hwz⟩ : ∃ x, wr.setCells (w.heap.size + 1) 0 (pgL (some ⟨g, 0, none⟩) j c3 en tp).toList = x := ⟨_, rfl⟩
      rw [hwz] at SR HK HF
      clear hwz x0
      unfold pgL at LP SR
      go_wp2_with (first | ((with_reducible refine wpList_loadE (op := ⟨some 58, _, _, _, _, _⟩) LP ?leX ?leG ?leO ?leE ?_); (case leO => exact rfl); (case leE => exact rfl); (case leG => exact rfl)) | refine wpList_storeE SR _ _ rfl rfl rfl rfl ?_)
      refine bodyPost_ret (v := .agg (pgL (some ⟨g, 0, none⟩) j c3 en tp)) ?_ rfl ⟨w.heap.size + 2, g, c3, W, hl, ns', by rw [HL.out], by omega, by rw [HL.out]; exact HF.out.1, HE.out, HW.out, HF.out.2⟩
      exact results_cell_row Try.results23 _ _ (w.heap.size + 1) 27 _ (0, 0) _ rfl HK.out Try.underlying27 rfl planeT
end Go.Proofs.Ytckclflbcgblaaa
