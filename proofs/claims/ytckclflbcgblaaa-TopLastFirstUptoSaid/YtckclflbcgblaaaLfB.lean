/- The ring has what was put last first: TopLastFirst, walked. Printed by genLfB.py. -/
import Derived.Test.YtckclflbcgblaaaPrM
import Derived.Test.YtckclflbcgblaaaPmN
import Derived.Test.YtckclflbcgblaaaOpDm
import Derived.Test.YtckclflbcgblaaaLfA
namespace Go.Proofs.Ytckclflbcgblaaa
open Go.RowKit Go.Maps Go.ChangeMaps Go.MapKept
theorem PrN.below {w w' : World} {B pb mb qb bb : Nat} {f1 f2 : Value} (h : PrN w B pb mb qb bb f1 f2) (hb : Below w.heap.size w w') : PrN w' B pb mb qb bb f1 f2 :=
  ⟨h.p.below hb h.p.lt, h.m.below hb, h.q.below hb h.q.lt, h.b.below hb h.b.lt, h.ne⟩
def bq1 : List ND := putSt [nd0] 1 (putND [nd0] 3 0 [] 0 0)
theorem bf1 : putW [nd0] 1 0 0 0 3 = 0 ∧ slotI [nd0] = 1 := by decide +kernel
theorem bf2 : thB bq1 1 = true := by decide +kernel
set_option maxRecDepth 100000 in
set_option maxHeartbeats 4000000 in
theorem begins6 (w : World) : Calls Try.prog 5 #[] w (RetB true w) := by
  have HB : Hid (Below w.heap.size w w) := Below.refl _ _
  go_enter Try.func5, Try.ntmps5
  have HC := Lib.hid (new_e (w := w))
  go_wp2_with (go_at_call 6; (with_reducible refine HC.out.mono ?_); rintro e W0 ⟨g0, n0, c0, rfl, hp0, hb⟩; have HP0 := Lib.hid hp0; replace HB := Lib.hid (HB.out.trans (hb.mono HB.out.size)); clear hp0 hb)
  clear HC
  have HC := Lib.hid (put_e HP0.out 1 0 3 none 0 0 [] 0 (vec0 W0) (by decide) bf1.1 bf1.2)
  go_wp2_with (first | ((with_reducible refine wpList_storeE (op := ⟨none, _, _, _, _, _⟩) SR ?s1X ?s1Y ?s1G ?s1O ?s1A ?s1B ?_); (case s1O => exact rfl); (case s1A => exact rfl); (case s1B => exact rfl); (case s1G => exact rfl)) | (go_at_call 7; (with_reducible refine HC.out.mono ?_); rintro e W1 ⟨g1, n1, c1, rfl, hp, hb⟩; replace HB := Lib.hid (HB.out.trans (hb.mono HB.out.size)); have SR := plane_put W1 (some ⟨g1, 0, none⟩) n1 c1 0 0; have NP := PV.new (en := 0) (tp := 0) hp; have NB := plane_bel W1 (some ⟨g1, 0, none⟩) n1 c1 0 0; obtain ⟨X1, hX⟩ : ∃ x, ((W1.alloc (.cells (pgL none 0 0 0 0) 27)).setCells W1.heap.size 0 (pgL (some ⟨g1, 0, none⟩) n1 c1 0 0).toList) = x := ⟨_, rfl⟩; rw [hX] at SR NP NB; replace HB := Lib.hid (HB.out.trans (NB.mono HB.out.size)); have Pa : Hid (PV X1 W1.heap.size g1 n1 c1 0 0 bq1) := NP; clear hX NP NB hp hb))
  clear HC SR
  clear HP0
  have hw0 : w.heap.size ≤ X1.heap.size := HB.out.size
  have HC := Lib.hid (pr_new X1)
  go_upto_region 3 with (go_at_call 14; (with_reducible refine HC.out.mono ?_); rintro e V0 ⟨pb, mb, qb, bb, f1, f2, rfl, hb, hpn⟩; have HPN := Lib.hid hpn; replace Pa := Lib.hid (Pa.out.below hb); replace HB := Lib.hid (HB.out.trans (hb.mono HB.out.size)); clear hpn hb)
  clear HC
  have z0 : V0.cell? ⟨W1.heap.size, 0, none⟩ = some (.slice (some ⟨g1, 0, none⟩) n1 c1) := Pa.out.blk.cell 0
  have z1 : V0.cell? ⟨W1.heap.size, 1, none⟩ = some (.int .i64 0) := Pa.out.blk.cell 1
  have z2 : V0.cell? ⟨W1.heap.size, 2, none⟩ = some (.int .i64 0) := Pa.out.blk.cell 2
  have HC := Lib.hid (there_e (en := 0) (tp := 0) Pa.out.pge 1 bf2)
  go_wp2_with (first | (go_at_call 20; (with_reducible refine HC.out.mono ?_); rintro e V1 ⟨rfl, hb⟩; have HO := Lib.hid (pr_offer V1 (HPN.out.below hb)); have HNE := HPN.out.ne; have HB2 := Lib.hid (HB.out.trans (hb.mono HB.out.size)); clear hb) | (go_at_call 16; (with_reducible refine HO.out.mono ?_); rintro e V2 ⟨rfl, ht⟩; have HB3 : Hid (Below w.heap.size w V2) := HB2.out.trans (ht.below HB2.out.size (by rintro k (rfl | rfl | rfl) <;> omega)); clear ht))
  go_ret
  exact ⟨rfl, HB3.out⟩
/-- An item. -/
structure ItD where
  id : Int
  vec : IS
  tags : Int
def ItD.cells (d : ItD) : Array Value := #[.int .u64 d.id, d.vec.v, .int .u64 d.tags]
def ItD.Good (w : World) (B : Nat) (d : ItD) : Prop := d.vec.At w B .i32 ∧ (Lit.int .u64 d.id).wf = true
section
open Go.ChangeShapes Go.WideShapes Go.ChangeAt Go.Joins Go.Deep
variable {H : Type} {enc : TypeId × Value → H} {w : World} {b0 : Nat} {v : Value} {d : DataW H} {p : List MemPlace}
set_option maxRecDepth 100000 in
theorem open_items_b (hb : Rows.uptoBulk d ≤ 1048576) (hv : Value.okWide Try.prog w .any b0 22 v) (h : DataW.Trod enc Try.prog w 0 (fun _ => true) true 22 v d p) :
    ∃ (A : Option Addr) (n c : Nat) (ds : List ItD), v = .slice A n c ∧ n ≤ 1048576 ∧ Rs w w.heap.size A n 3 (ds.map fun d => d.cells.toList) ∧ ∀ d ∈ ds, d.Good w w.heap.size := by
  obtain ⟨A, n, c, rfl⟩ := okWide_slice Try.underlying22 hv
  obtain ⟨fuel, hf⟩ := h
  have hf' : DataW.trod enc Try.prog w 0 (fun _ => true) true fuel 22 [.slice A n c] = some (d, p) := by simpa [Value.cells] using hf
  obtain ⟨A', n', c', css, q, hrs, _, _, hn, hall⟩ := tr_structs_b Try.underlying22 pc_item (by decide) hf'
  simp only [List.cons.injEq, Value.slice.injEq, and_true] at q
  obtain ⟨rfl, rfl, rfl⟩ := q
  obtain ⟨ds, rfl, hds⟩ := list_choice (f := fun d : ItD => d.cells.toList) (Q := fun d => d.Good w w.heap.size) css (fun d' hd => by
    obtain ⟨m', y, hy, hyb⟩ := hall d' hd
    obtain ⟨id, v, tags, rfl, hv, hid, hvb⟩ := pt_item_b hy
    exact ⟨⟨id, v, tags⟩, rfl, ⟨hv.1, Nat.le_trans hvb (Nat.le_trans (show _ ≤ Rows.uptoBulk d from hyb) hb), hv.2.2⟩, hid⟩)
  exact ⟨A, n, c, ds, rfl, Nat.le_trans (show n ≤ Rows.uptoBulk d from hn) hb, hrs, hds⟩
end
theorem it_load {w : World} {b o : Nat} {d : ItD} (h : w.rangeAt b o d.cells.toList) : (Instr.loadAt 32 (.pointer (some ⟨b, o, none⟩))).run Try.prog w = .ok (.agg d.cells) w := range_load h Try.underlying32 rfl itemT
def it0 : Array Value := #[.int .u64 0, .slice none 0 0, .int .u64 0]
theorem item_put (W : World) (d : ItD) : (Instr.storeAt 32 (.pointer (some ⟨W.heap.size, 0, none⟩)) (.agg d.cells)).run Try.prog (W.alloc (.cells it0 32)) = .ok () ((W.alloc (.cells it0 32)).setCells W.heap.size 0 d.cells.toList) :=
  row_store (Blk.new W 32 it0) d.cells rfl itemT (by simp [ItD.cells, IS.v, Value.oneCell'])
theorem item_blk (W : World) (d : ItD) : Blk ((W.alloc (.cells it0 32)).setCells W.heap.size 0 d.cells.toList) W.heap.size 32 d.cells := (Blk.new W 32 it0).put _ rfl
theorem item_bel (W : World) (d : ItD) : Below W.heap.size W ((W.alloc (.cells it0 32)).setCells W.heap.size 0 d.cells.toList) := below_setCells (bel_box _ _) (Nat.le_refl _) (Nat.le_refl _) _ _
/-- A right plane in a box, its entry the head, its ring l. -/
def PL (w : World) (t : Nat) (links : Int) (l : List Int) : Prop := ∃ (g n c : Nat) (L : List ND), PV w t g n c 0 0 L ∧ Rp L links l
theorem PL.below {w w' : World} {t : Nat} {links : Int} {l : List Int} (h : PL w t links l) (hb : Below w.heap.size w w') : PL w' t links l := by
  obtain ⟨g, n, c, L, h1, h2⟩ := h
  exact ⟨g, n, c, L, h1.below hb, h2⟩
theorem PL.store {w : World} {t t2 g n c : Nat} {links : Int} {L : List ND} {l l0 : List Int} (h : PL w t links l0) (hp : PV w t2 g n c 0 0 L) (hr : Rp L links l) :
    (Instr.storeAt 27 (.pointer (some ⟨t, 0, none⟩)) (.agg #[.slice (some ⟨g, 0, none⟩) n c, .int .i64 0, .int .i64 0])).run Try.prog w = .ok () (w.setCells t 0 (pgL (some ⟨g, 0, none⟩) n c 0 0).toList) ∧ PL (w.setCells t 0 (pgL (some ⟨g, 0, none⟩) n c 0 0).toList) t links l ∧ Tch (fun k => k = t) w (w.setCells t 0 (pgL (some ⟨g, 0, none⟩) n c 0 0).toList) := by
  obtain ⟨g0, n0, c0, L0, h1, h2⟩ := h
  have hT : Tch (fun k => k = t) w (w.setCells t 0 (pgL (some ⟨g, 0, none⟩) n c 0 0).toList) := Tch.setCells (S := fun k => k = t) rfl _ _ _ (Tch.refl _ _)
  have hB := Blk.put h1.blk (pgL (some ⟨g, 0, none⟩) n c 0 0).toList rfl
  refine ⟨row_store h1.blk (pgL (some ⟨g, 0, none⟩) n c 0 0) rfl planeT (by simp [pgL, Value.oneCell']), ⟨g, n, c, L, ⟨hB, ?_⟩, hr⟩, hT⟩
  obtain ⟨ns0, p1, p2⟩ := h1.pge
  obtain ⟨ns, q1, q2⟩ := hp.pge
  have hn0 : 0 < n0 := by
    have e1 := p1.len
    have e2 := p2.len
    have e3 := h2.pos
    omega
  obtain ⟨id, hid⟩ := p1.id0 hn0
  refine ⟨ns, (PgAt.keep (w' := w.setCells t 0 (pgL (some ⟨g, 0, none⟩) n c 0 0).toList) (c0 := c0) ⟨hT.size, fun b i u hu hne => ?_⟩ hid hn0 q1).more hT.size, q2⟩
  by_cases hb : b = t
  · subst hb
    have e1 := h1.blk.cell i
    rw [hu] at e1
    rw [hB.cell i]
    rcases i with _ | _ | _ | i
    · simp [pgL] at e1; exact absurd e1 hne
    · simp [pgL] at e1 ⊢; exact e1.symm
    · simp [pgL] at e1 ⊢; exact e1.symm
    · simp [pgL] at e1
  · rw [hT.cell (p := ⟨b, i, none⟩) (World.block_lt_of_cell? _ _ hu) hb]; exact hu
set_option maxRecDepth 100000 in
/-- 'append([]int{s}, l...)'. -/
theorem wpList_consI {ops : Array Oper} {rest : List Oper} {o : Oper} {a : Act} {Q : Exit → Act → World → Prop} (hgd : o.guard = none) (s x : Operand)
    (ho : o.op = .call { callee := .builtin .append, args := #[s, x], argTypes := #[23, 23] })
    (w0 : World) (z : Int) (A : Option Addr) (n c : Nat) (xs : List Int) (hs : a.eval s = .slice (some ⟨w0.heap.size, 0, none⟩) 1 1) (hx : a.eval x = .slice A n c) (hr : Rd w0 w0.heap.size A n (xs.map (.int .i64))) (hA : A = none → n = 0 ∧ c = 0) (hn : n ≤ 1048576)
    (h : ∀ A' c' w', OwnI w' w0.heap.size A' (1 + n) c' (z :: xs) → Below w0.heap.size w0 w' → wpList Try.prog ops Q rest (a.put o.dst (.slice A' (1 + n) c')) w') :
    wpList Try.prog ops Q (o :: rest) a (w0.alloc (.cells #[.int .i64 z] 3)) := by
  obtain ⟨i, hi, hz, hz1, hz2⟩ := info_parts info_int
  have hb0 := bel_box w0 (.cells #[.int .i64 z] 3)
  have hown : (w0.alloc (.cells #[.int .i64 z] 3)).ownsRow w0.heap.size 3 1 (.slice (some ⟨w0.heap.size, 0, none⟩) 1 1) 1 [.int .i64 z] :=
    ⟨rfl, Or.inr ⟨w0.heap.size, 1, #[.int .i64 z], rfl, Nat.le_refl _, heap_alloc_new w0 _, Nat.le_refl _, by unfold maxLen; omega, rfl, rfl⟩⟩
  have hl := hr.lenI
  cases A with
  | none =>
    obtain ⟨rfl, rfl⟩ := hA rfl
    have : xs = [] := List.eq_nil_of_length_eq_zero hl
    subst this
    refine wpList_append_own_none hgd s x 23 ho w0.heap.size 3 i 1 Try.underlying23 hi _ 1 _ hs hown hx ?_
    exact h _ _ _ hown hb0
  | some ad =>
    have hc : ∀ j u, (xs.map (Value.int .i64))[j]? = some u → (w0.alloc (.cells #[.int .i64 z] 3)).cell? (ad.add j) = some u := by
      intro j u hu
      have hj : j < n := by
        have := (List.getElem?_eq_some_iff.1 hu).1
        rw [List.length_map, hl] at this
        exact this
      obtain ⟨b, o, e, hb, hcc⟩ := hr.2 (by omega)
      injection e with e
      subst e
      rw [Addr.add_lit]
      exact (hb0.cell (p := ⟨b, o + j, none⟩) hb).trans (hcc j u hu)
    refine wpList_append_own _ hgd s x 23 ho w0.heap.size 3 i (.int .i64 0) 1 8 Try.underlying23 hi hz hz1 hz2 rfl (by decide) _ 1 _ hs hown ad n c (xs.map (.int .i64)) hx (by rw [List.length_map, hl, Nat.mul_one]) hc
      (by intro u hu; obtain ⟨z, _, rfl⟩ := List.mem_map.1 hu; rfl) (by unfold maxLen; omega) (by omega) hb0.size ?_
    intro v' w' ho' hg _
    have hb' := hb0.grown hg hb0.size (fun k hk => by injection hk with hk; exact Nat.le_of_eq hk)
    rcases ho'.2 with ⟨rfl, e0⟩ | ⟨g, cap, cur, rfl, _⟩
    · omega
    · exact h _ _ _ ho' hb'
set_option maxRecDepth 100000 in
set_option maxHeartbeats 8000000 in
theorem last6 (A : Option Addr) (n c : Nat) (its : List ItD) (sA : Option Addr) (sn sc : Nat) (gone : List Int) (links : Int) (w : World) (hn : n ≤ 1048576) (hr : Rs w w.heap.size A n 3 (its.map fun d => d.cells.toList)) (hd : ∀ d ∈ its, d.Good w w.heap.size)
    (hgr : Rd w w.heap.size sA sn (gone.map (.int .i64))) :
    Calls Try.prog 3 #[.slice A n c, .slice sA sn sc, .int .i64 links] w (RetB true w) := by
  have HLV := Lib.hid (begins6 w)
  have HR := Lib.hid hr
  have HD := Lib.hid hd
  have HGR := Lib.hid hgr
  clear hr hd hgr
  go_enter Try.func3, Try.ntmps3
  cases h14 : decide ((14 : Int) < (n : Int)) with
  | true =>
    go_wp2_with (go_at_call 5; (with_reducible refine HLV.out.mono ?_); rintro e w2 ⟨rfl, b2⟩; have HB2 := Lib.hid b2; clear b2)
    go_ret
    exact ⟨rfl, HB2.out⟩
  | false =>
    cases g14 : decide ((14 : Int) < (sn : Int)) with
    | true =>
      go_wp2_with (go_at_call 5; (with_reducible refine HLV.out.mono ?_); rintro e w2 ⟨rfl, b2⟩; have HB2 := Lib.hid b2; clear b2)
      go_ret
      exact ⟨rfl, HB2.out⟩
    | false =>
      have hn14 : n ≤ 14 := by have := of_decide_eq_false h14; omega
      have hs14 : sn ≤ 14 := by have := of_decide_eq_false g14; omega
      go_upto_region 5 with (go_at_call 5; (with_reducible refine HLV.out.mono ?_); rintro e w2 ⟨rfl, b2⟩; have HB2 := Lib.hid b2; clear b2)
      have HC := Lib.hid (new_e (w := w2))
      go_upto_region 6 with (first
        | ((with_reducible refine wpList_storeE (op := ⟨none, _, _, _, _, _⟩) SR ?s13X ?s13Y ?s13G ?s13O ?s13A ?s13B ?_); (case s13O => exact rfl); (case s13A => exact rfl); (case s13B => exact rfl); (case s13G => exact rfl))
        | (go_at_call 6; (with_reducible refine HC.out.mono ?_); rintro e W1 ⟨g1, n1, c1, rfl, hp, hb⟩; have HB3 := Lib.hid (HB2.out.trans (hb.mono HB2.out.size)); have SR := plane_put W1 (some ⟨g1, 0, none⟩) n1 c1 0 0; have NP := PV.new (en := 0) (tp := 0) hp; have NB := plane_bel W1 (some ⟨g1, 0, none⟩) n1 c1 0 0; obtain ⟨X1, hX⟩ : ∃ x, (W1.alloc (.cells (pgL none 0 0 0 0) 27)).setCells W1.heap.size 0 (pgL (some ⟨g1, 0, none⟩) n1 c1 0 0).toList = x := ⟨_, rfl⟩; rw [hX] at SR NP NB; have HP : Hid (PL X1 W1.heap.size links []) := ⟨g1, n1, c1, _, NP, Rp.new links⟩; have HB4 := Lib.hid (HB3.out.trans (NB.mono HB3.out.size)); have hts : W1.heap.size < X1.heap.size := NP.blk.lt; clear hX NP NB hp hb))
      clear HC SR HLV h14 g14
      obtain ⟨tg, htg⟩ : ∃ tg, W1.heap.size = tg := ⟨_, rfl⟩
      have htw : w.heap.size ≤ tg := by rw [← htg]; exact HB3.out.size
      rw [htg] at HP hts ⊢
      clear htg HB3 HB2
      go_wp2_with fail
      go_loopw [8, 10, 11, 12, 13, 33] (fun s8 _ _ _ _ s33 wr => ∃ (j m : Nat) (A' : Option Addr) (c' : Nat) (l : List Int), j ≤ n ∧ m ≤ j ∧ s33 = .int .i64 j ∧ s8 = .slice A' m c' ∧ Hid (PL wr tg links l) ∧ Hid (OwnI wr X1.heap.size A' m c' l) ∧ Hid (Below w.heap.size w wr) ∧ Hid (X1.heap.size ≤ wr.heap.size)) (fun _ _ _ _ _ s33 _ => n - (intOf s33).toNat)
      case atStart => exact ⟨0, 0, none, 0, [], Nat.zero_le _, Nat.zero_le _, rfl, rfl, HP, Lib.hid (OwnI.nil_ _ _), HB4, Lib.hid (Nat.le_refl _)⟩
      case round =>
        obtain ⟨j, m0, A1, c0, l, hj, hm, rfl, rfl, hpl, hown, hb, hxs⟩ := hrel
        have hsx := hb.out.size
        have hxx := hxs.out
        by_cases hlt : j < n
        · obtain ⟨pb, po, cs, rfl, hb0, hcs, _, hrg⟩ := HR.out.at_ hlt
          rw [List.getElem?_map] at hcs
          obtain ⟨⟨id, ⟨vA, vn, vc, vxs⟩, tags⟩, hdj, rfl⟩ := Option.map_eq_some_iff.1 hcs
          have HGD := Lib.hid ((HD.out _ (List.mem_of_getElem? hdj)))
          have LD := it_load (rangeAt_keep hrg fun q => hb.out.cell (p := ⟨pb, q, none⟩) hb0)
          have SR := item_put wr ⟨id, ⟨vA, vn, vc, vxs⟩, tags⟩
          have NK := item_blk wr ⟨id, ⟨vA, vn, vc, vxs⟩, tags⟩
          have NB := item_bel wr ⟨id, ⟨vA, vn, vc, vxs⟩, tags⟩
          obtain ⟨X, hX⟩ : ∃ x, (wr.alloc (.cells it0 32)).setCells wr.heap.size 0 (ItD.cells ⟨id, ⟨vA, vn, vc, vxs⟩, tags⟩).toList = x := ⟨_, rfl⟩
          rw [hX] at SR NK NB
          have HPX := Lib.hid (hpl.out.below NB)
          have HOX := Lib.hid (hown.out.below NB)
          have HBX := Lib.hid (hb.out.trans (NB.mono hsx))
          have hxX : X1.heap.size ≤ X.heap.size := Nat.le_trans hxx NB.size
          have htd : tg < wr.heap.size := by obtain ⟨_, _, _, _, q, _⟩ := hpl.out; exact q.blk.lt
          unfold ItD.cells at LD SR NK
          unfold IS.v at LD SR NK
          have LI := row_load NK Try.underlying32 rfl itemT
          clear hX NB hcs hdj hrg hpl hb NK hown hxs hxx
          go_upto_region 10 with (first
            | ((with_reducible refine wpList_loadE (op := ⟨some 36, _, _, _, _, _⟩) LD ?e2X ?e2G ?e2O ?e2E ?_); (case e2O => exact rfl); (case e2E => exact rfl); (case e2G => exact rfl))
            | ((with_reducible refine wpList_storeE (op := ⟨none, _, _, _, _, _⟩) SR ?s14X ?s14Y ?s14G ?s14O ?s14A ?s14B ?_); (case s14O => exact rfl); (case s14A => exact rfl); (case s14B => exact rfl); (case s14G => exact rfl)))
          clear LD SR
          obtain ⟨td, htd0⟩ : ∃ td, wr.heap.size = td := ⟨_, rfl⟩
          rw [htd0] at htd LI hsx ⊢
          clear htd0
          obtain ⟨g, m, c2, L, hpv, hrp⟩ := HPX.out
          have HPV := Lib.hid hpv
          have HRP := Lib.hid hrp
          have LP := hpv.load
          have HV : Hid (IS.At X X.heap.size .i32 ⟨vA, vn, vc, vxs⟩) := (HGD.out.1.below HBX.out).more HBX.out.size
          clear hpv hrp
          by_cases hw : putW L links 0 0 0 id = 0
          · have HR5 := Lib.hid (HRP.out.put hw vn vxs tags)
            have HC := Lib.hid (put_e (en := 0) (tp := 0) HPV.out.pge links 0 id vA vn vc vxs tags HV.out HGD.out.2 hw rfl)
            have hml := HOX.out.len
            clear hw HV
            obtain ⟨s, hs⟩ : ∃ s, slotI L = s := ⟨_, rfl⟩
            rw [hs] at HC HR5
            clear hs
            go_wp2_with (first
              | ((with_reducible refine wpList_loadE (op := ⟨some 38, _, _, _, _, _⟩) LP ?e3X ?e3G ?e3O ?e3E ?_); (case e3O => exact rfl); (case e3E => exact rfl); (case e3G => exact rfl))
              | ((with_reducible refine wpList_loadE (op := ⟨some 39, _, _, _, _, _⟩) LI ?e4X ?e4G ?e4O ?e4E ?_); (case e4O => exact rfl); (case e4E => exact rfl); (case e4G => exact rfl))
              | ((with_reducible refine wpList_loadE (op := ⟨some 47, _, _, _, _, _⟩) LP8 ?e5X ?e5G ?e5O ?e5E ?_); (case e5O => exact rfl); (case e5E => exact rfl); (case e5G => exact rfl))
              | ((with_reducible refine wpList_storeE (op := ⟨none, _, _, _, _, _⟩) SR ?s15X ?s15Y ?s15G ?s15O ?s15A ?s15B ?_); (case s15O => exact rfl); (case s15A => exact rfl); (case s15B => exact rfl); (case s15G => exact rfl))
              | ((with_reducible refine wpList_storeE (op := ⟨none, _, _, _, _, _⟩) S1 ?s16X ?s16Y ?s16G ?s16O ?s16A ?s16B ?_); (case s16O => exact rfl); (case s16A => exact rfl); (case s16B => exact rfl); (case s16G => exact rfl))
              | (at_builtin; refine wpList_consI rfl (.tmp 49) (.tmp 50) rfl V s A1 m0 c0 l rfl rfl HOV.out.rd HOV.out.none_ (by omega) ?_; intro A9 c9 w9 ho9 hb9; have HO9 := Lib.hid (OwnI.mono ho9 (show X1.heap.size ≤ V.heap.size from HXV.out)); have HP9 := Lib.hid (HS2.out.below hb9); have HB9 := Lib.hid (HBV.out.trans (hb9.mono HBV.out.size)); have HX9 : Hid (X1.heap.size ≤ w9.heap.size) := Nat.le_trans HXV.out hb9.size; clear ho9 hb9)
              | (go_at_call 7; (with_reducible refine HC.out.mono ?_); rintro e W5 ⟨g5, n5, c5, rfl, hp, hb⟩; have SR := plane_put W5 (some ⟨g5, 0, none⟩) n5 c5 0 0; have NP := PV.new (en := 0) (tp := 0) hp; have NB := plane_bel W5 (some ⟨g5, 0, none⟩) n5 c5 0 0; obtain ⟨X5, hX⟩ : ∃ x, ((W5.alloc (.cells (pgL none 0 0 0 0) 27)).setCells W5.heap.size 0 (pgL (some ⟨g5, 0, none⟩) n5 c5 0 0).toList) = x := ⟨_, rfl⟩; rw [hX] at SR NP NB; have BX5 := hb.trans (NB.mono hb.size); have hpl5 := HPX.out.below BX5; have LP8 := NP.load; obtain ⟨S1, S2, S3⟩ := PL.store (t := tg) hpl5 NP HR5.out; obtain ⟨V, hV⟩ : ∃ V, X5.setCells tg 0 (pgL (some ⟨g5, 0, none⟩) n5 c5 0 0).toList = V := ⟨_, rfl⟩; rw [hV] at S1 S2 S3; have hb5 := HBX.out.trans (BX5.mono HBX.out.size); have HS2 := Lib.hid S2; have HBV : Hid (Below w.heap.size w V) := hb5.trans (S3.below hb5.size (by rintro k rfl; exact htw)); have HOV : Hid (OwnI V X1.heap.size A1 m0 c0 l) := OwnI.apart (HOX.out.below BX5) (fun k q1 q2 => S3.block k q2 (by show ¬ k = tg; omega)); have HXV : Hid (X1.heap.size ≤ V.heap.size) := Nat.le_trans hxX (Nat.le_trans BX5.size S3.size); clear hX NP NB hp hb BX5 hpl5 S2 S3 hV hb5))
            go_roundw
            case rel => exact ⟨j + 1, 1 + m0, A9, c9, (s : Int) :: l, by omega, by omega, by go_num, rfl, HP9, HO9, HB9, HX9⟩
            case measure => simp [intOf]; omega
          · have HC := Lib.hid (put_no (en := 0) (tp := 0) HPV.out.pge links 0 id vA vn vc vxs tags HV.out HGD.out.2 rfl hw)
            have hy0 : (putW L links 0 0 0 id == 0) = false := beq_false_of_ne hw
            obtain ⟨y, hy⟩ : ∃ y, putW L links 0 0 0 id = y := ⟨_, rfl⟩
            rw [hy] at HC hy0
            clear hw HV hy
            go_wp2_with (first
              | ((with_reducible refine wpList_loadE (op := ⟨some 38, _, _, _, _, _⟩) LP ?e6X ?e6G ?e6O ?e6E ?_); (case e6O => exact rfl); (case e6E => exact rfl); (case e6G => exact rfl))
              | ((with_reducible refine wpList_loadE (op := ⟨some 39, _, _, _, _, _⟩) LI ?e7X ?e7G ?e7O ?e7E ?_); (case e7O => exact rfl); (case e7E => exact rfl); (case e7G => exact rfl))
              | ((with_reducible refine wpList_storeE (op := ⟨none, _, _, _, _, _⟩) SR ?s17X ?s17Y ?s17G ?s17O ?s17A ?s17B ?_); (case s17O => exact rfl); (case s17A => exact rfl); (case s17B => exact rfl); (case s17G => exact rfl))
              | (go_at_call 7; (with_reducible refine HC.out.mono ?_); rintro e W5 ⟨rfl, hb⟩; have SR := plane_put W5 none 0 0 0 0; have NB := plane_bel W5 none 0 0 0 0; obtain ⟨X5, hX⟩ : ∃ x, ((W5.alloc (.cells (pgL none 0 0 0 0) 27)).setCells W5.heap.size 0 (pgL none 0 0 0 0).toList) = x := ⟨_, rfl⟩; rw [hX] at SR NB; have BX5 := hb.trans (NB.mono hb.size); have HPF := Lib.hid (HPX.out.below BX5); have HO5 := Lib.hid (HOX.out.below BX5); have HB5 := Lib.hid (HBX.out.trans (BX5.mono HBX.out.size)); have HX5 : Hid (X1.heap.size ≤ X5.heap.size) := Nat.le_trans hxX BX5.size; clear hX NB hb BX5))
            go_roundw
            case rel => exact ⟨j + 1, m0, A1, c0, l, by omega, by omega, by go_num, rfl, HPF, HO5, HB5, HX5⟩
            case measure => simp [intOf]; omega
        · obtain rfl : j = n := by omega
          have hol := hown.out.len
          go_wp2_with fail
          go_loopw [8, 15, 16, 17, 55] (fun s8 _ _ _ s55 wr => ∃ (i m : Nat) (A' : Option Addr) (c' : Nat) (l : List Int), i ≤ sn ∧ m ≤ 14 ∧ s55 = .int .i64 i ∧ s8 = .slice A' m c' ∧ Hid (PL wr tg links l) ∧ Hid (OwnI wr X1.heap.size A' m c' l) ∧ Hid (Below w.heap.size w wr) ∧ Hid (X1.heap.size ≤ wr.heap.size)) (fun _ _ _ _ s55 _ => sn - (intOf s55).toNat)
          case atStart => exact ⟨0, m0, A1, c0, l, Nat.zero_le _, by omega, rfl, rfl, hpl, hown, hb, hxs⟩
          case round =>
            clear hpl hown hb hxs hsx hxx hol hlt hj hm
            obtain ⟨i, m0, A1, c0, l, hi, hm14, rfl, rfl, hpl, hown, hb3, hxs⟩ := hrel
            have hsx := hb3.out.size
            have hxx := hxs.out
            have hol := hown.out.len
            by_cases hli : i < sn
            · obtain ⟨lb, lo, rfl, hlb, hx0⟩ := rd_ig HGR.out hli
              have hx4 : wr.cell? ⟨lb, lo + i, none⟩ = some (.int .i64 (ig gone i)) := (hb3.out.cell (p := ⟨lb, lo + i, none⟩) hlb).trans hx0
              obtain ⟨x, hx⟩ : ∃ x, ig gone i = x := ⟨_, rfl⟩
              rw [hx] at hx4
              clear hx hx0
              obtain ⟨g, m, c2, L, hpv, hrp⟩ := hpl.out
              have HPV := Lib.hid hpv
              have HRP := Lib.hid hrp
              have LP := hpv.load
              have hm0 : 0 < m := by have h1 := hpv.pge.len; have h2 := hrp.pos; omega
              have htd : tg < wr.heap.size := hpv.blk.lt
              clear hpv hrp
              have hdb : dropB L links 0 0 x = thB L x := by unfold dropB; rw [HRP.out.chk rfl, Bool.true_and]
              have hC := drop_e (en := 0) (tp := 0) HPV.out.pge hm0 links x hdb
              simp only [ite_self] at hC
              have hml : x ∈ l ↔ thB L x = true := ⟨fun q => HRP.out.ch.mem x q, HRP.out.all x⟩
              have HC := Lib.hid hC
              clear hC hdb
              cases hta : thB L x with
              | true =>
                rw [hta] at HC hml
                have HHI : Hid (hasI l x = true) := hasI_iff.2 (hml.2 rfl)
                have HR5 := Lib.hid (HRP.out.drop hta (HRP.out.gone hta))
                clear hta hml
                go_wp2_with (first
                  | ((with_reducible refine wpList_loadE (op := ⟨some 60, _, _, _, _, _⟩) LP ?e8X ?e8G ?e8O ?e8E ?_); (case e8O => exact rfl); (case e8E => exact rfl); (case e8G => exact rfl))
                  | ((with_reducible refine wpList_loadE (op := ⟨some 71, _, _, _, _, _⟩) LP8 ?e9X ?e9G ?e9O ?e9E ?_); (case e9O => exact rfl); (case e9E => exact rfl); (case e9G => exact rfl))
                  | ((with_reducible refine wpList_storeE (op := ⟨none, _, _, _, _, _⟩) SR ?s18X ?s18Y ?s18G ?s18O ?s18A ?s18B ?_); (case s18O => exact rfl); (case s18A => exact rfl); (case s18B => exact rfl); (case s18G => exact rfl))
                  | ((with_reducible refine wpList_storeE (op := ⟨none, _, _, _, _, _⟩) S1 ?s19X ?s19Y ?s19G ?s19O ?s19A ?s19B ?_); (case s19O => exact rfl); (case s19A => exact rfl); (case s19B => exact rfl); (case s19G => exact rfl))
                  | (go_at_call 10; (with_reducible refine HWO.out.mono ?_); rintro e w9 ⟨A9, m9, c9, rfl, ho9, hb9⟩; have HO9 := Lib.hid (OwnI.mono ho9 (show X1.heap.size ≤ V.heap.size from HXV.out)); have HP9 := Lib.hid (HS2.out.below hb9); have HB9 := Lib.hid (HBV.out.trans (hb9.mono HBV.out.size)); have HX9 : Hid (X1.heap.size ≤ w9.heap.size) := Nat.le_trans HXV.out hb9.size; clear ho9 hb9)
                  | (go_at_call 9; (with_reducible refine HHS.out.mono ?_); rintro e w8 ⟨rfl, rfl⟩)
                  | (go_at_call 8; (with_reducible refine HC.out.mono ?_); rintro e W5 ⟨g5, n5, c5, rfl, hp, hb⟩; replace hp : PgE W5 g5 n5 c5 (dropSt L x.toNat) := hp; have SR := plane_put W5 (some ⟨g5, 0, none⟩) n5 c5 0 0; have NP := PV.new (en := 0) (tp := 0) hp; have NB := plane_bel W5 (some ⟨g5, 0, none⟩) n5 c5 0 0; obtain ⟨X5, hX⟩ : ∃ x, ((W5.alloc (.cells (pgL none 0 0 0 0) 27)).setCells W5.heap.size 0 (pgL (some ⟨g5, 0, none⟩) n5 c5 0 0).toList) = x := ⟨_, rfl⟩; rw [hX] at SR NP NB; have BX5 := hb.trans (NB.mono hb.size); have hpl5 := hpl.out.below BX5; have LP8 := NP.load; obtain ⟨S1, S2, S3⟩ := PL.store (t := tg) hpl5 NP HR5.out; obtain ⟨V, hV⟩ : ∃ V, X5.setCells tg 0 (pgL (some ⟨g5, 0, none⟩) n5 c5 0 0).toList = V := ⟨_, rfl⟩; rw [hV] at S1 S2 S3; have hb5 := hb3.out.trans (BX5.mono hb3.out.size); have ho5 := hown.out.below BX5; have HHS := eg_has A1 m0 c0 l x X5 ho5.rd (by omega); rw [HHI.out] at HHS; replace HHS := Lib.hid HHS; have HS2 := Lib.hid S2; have HBV : Hid (Below w.heap.size w V) := hb5.trans (S3.below hb5.size (by rintro k rfl; exact htw)); have HOV : Hid (OwnI V X1.heap.size A1 m0 c0 l) := OwnI.apart ho5 (fun k q1 q2 => S3.block k q2 (by show ¬ k = tg; omega)); have HXV : Hid (X1.heap.size ≤ V.heap.size) := Nat.le_trans hxx (Nat.le_trans BX5.size S3.size); have HWO := Lib.hid (eg_without A1 m0 c0 l x V HOV.out.rd HOV.out.none_ (by omega)); clear hX NP NB hp hb BX5 hpl5 S2 S3 hV hb5 ho5))
                have hm9 := HO9.out.len
                have hwl := without_len l x
                clear hpl hown hb3 hxs HC
                go_roundw
                case rel => exact ⟨i + 1, m9, A9, c9, withoutI l x, by omega, by omega, by go_num, rfl, HP9, HO9, HB9, HX9⟩
                case measure => simp [intOf]; omega
              | false =>
                rw [hta] at HC hml
                have hnm : x ∉ l := fun q => by have := hml.1 q; cases this
                have HHI : Hid (hasI l x = false) := by
                  show _ = _
                  cases e : hasI l x with
                  | false => rfl
                  | true => exact absurd (hasI_iff.1 e) hnm
                have HWI : Hid (withoutI l x = l) := without_id hnm
                clear hta hml hnm
                go_wp2_with (first
                  | ((with_reducible refine wpList_loadE (op := ⟨some 60, _, _, _, _, _⟩) LP ?e10X ?e10G ?e10O ?e10E ?_); (case e10O => exact rfl); (case e10E => exact rfl); (case e10G => exact rfl))
                  | ((with_reducible refine wpList_loadE (op := ⟨some 71, _, _, _, _, _⟩) LP8 ?e11X ?e11G ?e11O ?e11E ?_); (case e11O => exact rfl); (case e11E => exact rfl); (case e11G => exact rfl))
                  | ((with_reducible refine wpList_storeE (op := ⟨none, _, _, _, _, _⟩) SR ?s20X ?s20Y ?s20G ?s20O ?s20A ?s20B ?_); (case s20O => exact rfl); (case s20A => exact rfl); (case s20B => exact rfl); (case s20G => exact rfl))
                  | ((with_reducible refine wpList_storeE (op := ⟨none, _, _, _, _, _⟩) S1 ?s21X ?s21Y ?s21G ?s21O ?s21A ?s21B ?_); (case s21O => exact rfl); (case s21A => exact rfl); (case s21B => exact rfl); (case s21G => exact rfl))
                  | (go_at_call 10; (with_reducible refine HWO.out.mono ?_); rintro e w9 ⟨A9, m9, c9, rfl, ho9, hb9⟩; have HO9 := Lib.hid (OwnI.mono ho9 (show X1.heap.size ≤ V.heap.size from HXV.out)); have HP9 := Lib.hid (HS2.out.below hb9); have HB9 := Lib.hid (HBV.out.trans (hb9.mono HBV.out.size)); have HX9 : Hid (X1.heap.size ≤ w9.heap.size) := Nat.le_trans HXV.out hb9.size; clear ho9 hb9)
                  | (go_at_call 9; (with_reducible refine HHS.out.mono ?_); rintro e w8 ⟨rfl, rfl⟩)
                  | (go_at_call 8; (with_reducible refine HC.out.mono ?_); rintro e W5 ⟨g5, n5, c5, rfl, hp, hb⟩; replace hp : PgE W5 g5 n5 c5 L := hp; have SR := plane_put W5 (some ⟨g5, 0, none⟩) n5 c5 0 0; have NP := PV.new (en := 0) (tp := 0) hp; have NB := plane_bel W5 (some ⟨g5, 0, none⟩) n5 c5 0 0; obtain ⟨X5, hX⟩ : ∃ x, ((W5.alloc (.cells (pgL none 0 0 0 0) 27)).setCells W5.heap.size 0 (pgL (some ⟨g5, 0, none⟩) n5 c5 0 0).toList) = x := ⟨_, rfl⟩; rw [hX] at SR NP NB; have BX5 := hb.trans (NB.mono hb.size); have hpl5 := hpl.out.below BX5; have LP8 := NP.load; obtain ⟨S1, S2, S3⟩ := PL.store (t := tg) hpl5 NP HRP.out; obtain ⟨V, hV⟩ : ∃ V, X5.setCells tg 0 (pgL (some ⟨g5, 0, none⟩) n5 c5 0 0).toList = V := ⟨_, rfl⟩; rw [hV] at S1 S2 S3; have hb5 := hb3.out.trans (BX5.mono hb3.out.size); have ho5 := hown.out.below BX5; have HHS := eg_has A1 m0 c0 l x X5 ho5.rd (by omega); rw [HHI.out] at HHS; replace HHS := Lib.hid HHS; have HS2 := Lib.hid S2; have HBV : Hid (Below w.heap.size w V) := hb5.trans (S3.below hb5.size (by rintro k rfl; exact htw)); have HOV : Hid (OwnI V X1.heap.size A1 m0 c0 l) := OwnI.apart ho5 (fun k q1 q2 => S3.block k q2 (by show ¬ k = tg; omega)); have HXV : Hid (X1.heap.size ≤ V.heap.size) := Nat.le_trans hxx (Nat.le_trans BX5.size S3.size); have HWO := Lib.hid (eg_without A1 m0 c0 l x V HOV.out.rd HOV.out.none_ (by omega)); clear hX NP NB hp hb BX5 hpl5 S2 S3 hV hb5 ho5))
                have hm9 := HO9.out.len
                have hwl := without_len l x
                clear hpl hown hb3 hxs HC
                have HP9' : Hid (PL w9 tg links (withoutI l x)) := by show PL _ _ _ _; rw [HWI.out]; exact HP9.out
                go_roundw
                case rel => exact ⟨i + 1, m9, A9, c9, withoutI l x, by omega, by omega, by go_num, rfl, HP9', HO9, HB9, HX9⟩
                case measure => simp [intOf]; omega
            · obtain rfl : i = sn := by omega
              obtain ⟨g, m, c2, L, hpv, hrp⟩ := hpl.out
              have HPV := Lib.hid hpv
              have LP := hpv.load
              have HC := Lib.hid (ring_e (en := 0) (tp := 0) hpv.pge hrp.ring)
              clear hpv hrp
              go_upto_region 25 with (first
                | ((with_reducible refine wpList_loadE (op := ⟨some 76, _, _, _, _, _⟩) LP ?e12X ?e12G ?e12O ?e12E ?_); (case e12O => exact rfl); (case e12E => exact rfl); (case e12G => exact rfl))
                | (go_at_call 11; (with_reducible refine HC.out.mono ?_); rintro e W5 ⟨A5, m5, c5, rfl, ho5, hb⟩; have HO5 := Lib.hid ho5; have HO1 := Lib.hid (hown.out.below hb); have HB5 := Lib.hid (hb3.out.trans (hb.mono hb3.out.size)); clear ho5 hb))
              have hl5 := HO5.out.len
              obtain rfl : m5 = m0 := by omega
              have HRA := Lib.hid HO5.out.rd
              have HRB := Lib.hid HO1.out.rd
              clear HC LP hpl hown hb3 hxs HO5 HO1 HPV
              go_wp2_with fail
              go_loopw [19, 85] (fun _ s85 wr => ∃ i : Nat, i ≤ m5 ∧ s85 = .int .i64 i ∧ Hid (Below W5.heap.size W5 wr)) (fun _ s85 _ => m5 - (intOf s85).toNat)
              case atStart => exact ⟨0, Nat.zero_le _, rfl, Lib.hid (Below.refl _ _)⟩
              case round =>
                obtain ⟨i, hi, rfl, hb⟩ := hrel
                have hsb := hb.out.size
                by_cases hli : i < m5
                · obtain ⟨rb, ro, rfl, hrb, hx1⟩ := rd_ig HRA.out hli
                  obtain ⟨pb, po, rfl, hpb, hx2⟩ := rd_ig HRB.out hli
                  have HX1 : Hid (∀ Y, Below wr.heap.size wr Y → Y.cell? ⟨rb, ro + i * 1, none⟩ = some (.int .i64 (ig l i))) := fun Y hY => by
                    rw [Nat.mul_one]
                    exact (hY.cell (p := ⟨rb, ro + i, none⟩) (by show rb < _; omega)).trans ((hb.out.cell (p := ⟨rb, ro + i, none⟩) hrb).trans hx1)
                  have HX2 : Hid (∀ Y, Below wr.heap.size wr Y → Y.cell? ⟨pb, po + i * 1, none⟩ = some (.int .i64 (ig l i))) := fun Y hY => by
                    rw [Nat.mul_one]
                    exact (hY.cell (p := ⟨pb, po + i, none⟩) (by show pb < _; omega)).trans ((hb.out.cell (p := ⟨pb, po + i, none⟩) hpb).trans hx2)
                  go_upto_region 30 with fail
                  refine wp_region_held_drew (S := fun w' => Below wr.heap.size wr w') (by kernel_rfl) (below_drewN (Below.refl _ wr) 1) (fun hH => ?_)
                  refine wpAnyH_take (i := 0) (v := .slice (some ⟨rb, ro, none⟩) m5 c5) rfl (by kernel_rfl) (by kernel_rfl) (by kernel_rfl) (fun _ _ _ h => h) (.inl ⟨by rfl, fun _ _ => by kernel_rfl⟩) hH ?_
                  (try simp only [List.getElem_toArray, List.getElem_cons_zero, Act.put, List.setIfInBounds_toArray, List.set_cons_zero, List.set_cons_succ])
                  refine wpAnyH_take (i := 1) (v := .int .i64 (i : Int)) rfl (by kernel_rfl) (by kernel_rfl) (by kernel_rfl) (fun _ _ _ h => h) (.inl ⟨by rfl, fun _ _ => by kernel_rfl⟩) hH ?_
                  (try simp only [List.getElem_toArray, List.getElem_cons_zero, List.getElem_cons_succ, Act.put, List.setIfInBounds_toArray, List.set_cons_zero, List.set_cons_succ])
                  refine wpAnyH_take (i := 2) (v := .pointer (some ⟨rb, ro + i * 1, none⟩)) rfl (by kernel_rfl) (by kernel_rfl) (by kernel_rfl) (fun _ _ _ h => h) (yieldsIf_index Try.underlying23 size_ints (by rfl) _ _ rfl rfl rfl hli) hH ?_
                  (try simp only [List.getElem_toArray, List.getElem_cons_zero, List.getElem_cons_succ, Act.put, List.setIfInBounds_toArray, List.set_cons_zero, List.set_cons_succ])
                  refine wpAnyH_take (i := 3) (v := .int .i64 (ig l i)) rfl (by kernel_rfl) (by kernel_rfl) (by kernel_rfl) (fun _ _ _ h => h) (yieldsIf_loadP (by rfl) _ rfl rfl (fun _ q => load_i64 (HX1.out _ q))) hH ?_
                  (try simp only [List.getElem_toArray, List.getElem_cons_zero, List.getElem_cons_succ, Act.put, List.setIfInBounds_toArray, List.set_cons_zero, List.set_cons_succ])
                  refine wpAnyH_take (i := 4) (v := .slice (some ⟨pb, po, none⟩) m5 c0) rfl (by kernel_rfl) (by kernel_rfl) (by kernel_rfl) (fun _ _ _ h => h) (.inl ⟨by rfl, fun _ _ => by kernel_rfl⟩) hH ?_
                  (try simp only [List.getElem_toArray, List.getElem_cons_zero, List.getElem_cons_succ, Act.put, List.setIfInBounds_toArray, List.set_cons_zero, List.set_cons_succ])
                  refine wpAnyH_take (i := 5) (v := .int .i64 (i : Int)) rfl (by kernel_rfl) (by kernel_rfl) (by kernel_rfl) (fun _ _ _ h => h) (.inl ⟨by rfl, fun _ _ => by kernel_rfl⟩) hH ?_
                  (try simp only [List.getElem_toArray, List.getElem_cons_zero, List.getElem_cons_succ, Act.put, List.setIfInBounds_toArray, List.set_cons_zero, List.set_cons_succ])
                  refine wpAnyH_take (i := 6) (v := .pointer (some ⟨pb, po + i * 1, none⟩)) rfl (by kernel_rfl) (by kernel_rfl) (by kernel_rfl) (fun _ _ _ h => h) (yieldsIf_index Try.underlying23 size_ints (by rfl) _ _ rfl rfl rfl hli) hH ?_
                  (try simp only [List.getElem_toArray, List.getElem_cons_zero, List.getElem_cons_succ, Act.put, List.setIfInBounds_toArray, List.set_cons_zero, List.set_cons_succ])
                  refine wpAnyH_take (i := 7) (v := .int .i64 (ig l i)) rfl (by kernel_rfl) (by kernel_rfl) (by kernel_rfl) (fun _ _ _ h => h) (yieldsIf_loadP (by rfl) _ rfl rfl (fun _ q => load_i64 (HX2.out _ q))) hH ?_
                  (try simp only [List.getElem_toArray, List.getElem_cons_zero, List.getElem_cons_succ, Act.put, List.setIfInBounds_toArray, List.set_cons_zero, List.set_cons_succ])
                  refine wpAnyH_take (i := 8) (v := .bool false) rfl (by kernel_rfl) (by kernel_rfl) (by kernel_rfl) (fun _ _ _ h => h) (yieldsIf_neqR (by rfl) _ _ rfl rfl rfl (bne_self_eq_false _)) hH ?_
                  (try simp only [List.getElem_toArray, List.getElem_cons_zero, List.getElem_cons_succ, Act.put, List.setIfInBounds_toArray, List.set_cons_zero, List.set_cons_succ])
                  refine wpAnyH_done (by kernel_rfl) ?_ _
                  have HBN := Lib.hid (hb.out.trans (hH.mono hsb))
                  clear hb hH
                  go_wp2_with fail
                  go_roundw
                  case rel => exact ⟨i + 1, by omega, by go_num, HBN⟩
                  case measure => simp [intOf]; omega
                · obtain rfl : i = m5 := by omega
                  have HBF := HB5.out.trans (hb.out.mono HB5.out.size)
                  go_wp2_with fail
                  go_ret
                  exact ⟨rfl, HBF⟩
end Go.Proofs.Ytckclflbcgblaaa
