/- The document's clock: Retire. -/
import Derived.Test.YtcpgapnikgchaaaEpY
import Derived.Deep.AppendLies
import Derived.Deep.RegionLaw
import Derived.Laws.AppendOwnNone
namespace Go.Proofs.Ytcpgapnikgchaaa
open Go.RowKit
theorem news_pairs {W : World} {ad : Addr} {ys : List Int} (hr : ∀ j, j < ys.length → W.cell? (ad.add j) = some (.int .i64 (ig ys j))) : ∀ j u, (ys.map (Value.int .i64))[j]? = some u → W.cell? (ad.add j) = some u := by
  intro j u hu
  have hj : j < ys.length := by have := (List.getElem?_eq_some_iff.1 hu).1; simpa using this
  rw [hr j hj, ← hu, List.getElem?_map, List.getElem?_eq_getElem hj]
  simp [ig, List.getD_eq_getElem?_getD, List.getElem?_eq_getElem hj]
theorem ones_pairs (ys : List Int) : ∀ u ∈ ys.map (Value.int .i64), u.oneCell' = true := by
  intro u hu
  obtain ⟨x, _, rfl⟩ := List.mem_map.1 hu
  rfl
/-- 'append(s, t...)' on lists of pairs, s being a row of one's own. -/
theorem wp_push2 {o : Oper} {a : Act} {K : Act → World → Prop} {Q : Exit → Act → World → Prop} (s x : Operand)
    (ho : o.op = .call { callee := .builtin .append, args := #[s, x], argTypes := #[29, 29] })
    (W : World) (base : Nat) (A : Option Addr) (n c : Nat) (fl : List Int) (hs : a.eval s = .slice A n c) (hown : W.ownsRow base 61 2 (.slice A n c) n (fl.map (.int .i64)))
    (ad : Addr) (m c' : Nat) (ys : List Int) (hx : a.eval x = .slice (some ad) m c') (hys : ys.length = m * 2) (hr : ∀ j, j < ys.length → W.cell? (ad.add j) = some (.int .i64 (ig ys j)))
    (hm : 0 < m) (nm : Nat) (enm : n + m = nm) (hnm : nm ≤ 1048577) (zs : List Int) (ezs : fl ++ ys = zs) (hbase : base ≤ W.heap.size)
    (h : ∀ g cap w', w'.ownsRow base 61 2 (.slice (some ⟨g, 0, none⟩) nm cap) nm (zs.map (.int .i64)) → base ≤ g → Below base W w' → (∀ k, k < W.heap.size → (Value.slice A n c).ownBlock ≠ some k → w'.heap[k]? = W.heap[k]?) → K (a.put o.dst (.slice (some ⟨g, 0, none⟩) nm cap)) w') :
    o.wp Try.prog a W K Q := by
  subst enm ezs
  obtain ⟨ri, rz, ri1, rz1, ri2, ri3, rz2⟩ := ref_info
  refine wp_append_lies W s x 29 ho base 61 ri rz 2 16 Try.underlying29 ri1 rz1 ri2 ri3 rz2 (by decide) (.slice A n c) n (fl.map (.int .i64)) hs hown ad m c' (ys.map (.int .i64)) hx (by simpa using hys) (news_pairs hr) (ones_pairs ys) hm
    (by unfold maxLen; omega) (by omega) hbase _ rfl ?_
  intro g cap w' hown' hg hat hlt
  have hb : Below base W w' := (Below.refl base W).grown hg hbase fun k hk => (hown.lt k hk).1
  exact h g cap w' (by simpa using hown') (own_block hown' rfl).1 hb fun k hk hne => hg.block k hk fun e => hne e.symm
theorem step_push2 {ops : Array Oper} {o : Oper} {a : Act} {K : Act → World → Prop} {Q : Exit → Act → World → Prop} {E : Prop} (hgd : o.guard = none) (s x : Operand)
    (ho : o.op = .call { callee := .builtin .append, args := #[s, x], argTypes := #[29, 29] })
    (W : World) (base : Nat) (A : Option Addr) (n c : Nat) (fl : List Int) (hs : a.eval s = .slice A n c) (hown : W.ownsRow base 61 2 (.slice A n c) n (fl.map (.int .i64)))
    (ad : Addr) (m c' : Nat) (ys : List Int) (hx : a.eval x = .slice (some ad) m c') (hys : ys.length = m * 2) (hr : ∀ j, j < ys.length → W.cell? (ad.add j) = some (.int .i64 (ig ys j)))
    (hm : 0 < m) (nm : Nat) (enm : n + m = nm) (hnm : nm ≤ 1048577) (zs : List Int) (ezs : fl ++ ys = zs) (hbase : base ≤ W.heap.size)
    (h : ∀ g cap w', w'.ownsRow base 61 2 (.slice (some ⟨g, 0, none⟩) nm cap) nm (zs.map (.int .i64)) → base ≤ g → Below base W w' → (∀ k, k < W.heap.size → (Value.slice A n c).ownBlock ≠ some k → w'.heap[k]? = W.heap[k]?) → K (a.put o.dst (.slice (some ⟨g, 0, none⟩) nm cap)) w') :
    if Region.wanted o (yielded ops a.tmps) = true then Oper.wp Try.prog o a W K Q else E := by
  have hw : Region.wanted o (yielded ops a.tmps) = true := by simp [Region.wanted, hgd]
  rw [if_pos hw]
  exact wp_push2 s x ho W base A n c fl hs hown ad m c' ys hx hys hr hm nm enm hnm zs ezs hbase h
/-- The same where nothing is appended. -/
theorem step_push2_none {ops : Array Oper} {o : Oper} {a : Act} {K : Act → World → Prop} {Q : Exit → Act → World → Prop} {E : Prop} (hgd : o.guard = none) (s x : Operand)
    (ho : o.op = .call { callee := .builtin .append, args := #[s, x], argTypes := #[29, 29] })
    (W : World) (base : Nat) (v : Value) (n : Nat) (xs : List Value) (hs : a.eval s = v) (hown : W.ownsRow base 61 2 v n xs) (hx : a.eval x = .slice none 0 0)
    (h : K (a.put o.dst v) W) :
    if Region.wanted o (yielded ops a.tmps) = true then Oper.wp Try.prog o a W K Q else E := by
  obtain ⟨ri, rz, ri1, rz1, ri2, ri3, rz2⟩ := ref_info
  have hw : Region.wanted o (yielded ops a.tmps) = true := by simp [Region.wanted, hgd]
  rw [if_pos hw]
  have hrun := run_append_owned_none (P := Try.prog) (w := W) base 29 o.type 61 ri 2 Try.underlying29 ri1 v n xs hown
  unfold Oper.wp
  simp [execOp, ho, resolve, invoke, builtin, hs, hx, hrun, Result.andThen]
  exact h
theorem own_new2 (w : World) : (w.alloc (.cells #[] 61)).ownsRow w.heap.size 61 2 (.slice (some ⟨w.heap.size, 0, none⟩) 0 0) 0 (([] : List Int).map (.int .i64)) :=
  ⟨rfl, Or.inr ⟨w.heap.size, 0, #[], rfl, Nat.le_refl _, heap_alloc_new w _, Nat.le_refl _, Nat.zero_le _, rfl, rfl⟩⟩
theorem pair_cells {W : World} {b : Nat} {x y : Int} (h : W.heap[b]? = some (.cells #[.int .i64 x, .int .i64 y] 61 (0, 0))) : ∀ j, j < [x, y].length → W.cell? (Addr.add ⟨b, 0, none⟩ j) = some (.int .i64 (ig [x, y] j)) := by
  intro j hj
  rw [Addr.add_lit, Nat.zero_add]
  refine (cell_of_row W b j _ _ (0, 0) h).trans ?_
  have : j = 0 ∨ j = 1 := by simp at hj; omega
  rcases this with rfl | rfl <;> rfl
set_option maxRecDepth 100000 in
set_option maxHeartbeats 4000000 in
theorem r_retire (e a : Nat) (LA RA MA : Option Addr) (n lc rc k mc : Nat) (fl : List Int) (x : Int) (w : World) (hr : Rd2 w w.heap.size MA k fl) (hk : k ≤ 1048576) (hM : (k = 0 ∧ MA = none ∧ mc = 0) ∨ 0 < k) :
    Calls Try.prog 14 #[cV e a (.slice LA n lc) (.slice RA n rc) (.slice MA k mc), .int .i64 x] w fun en w' =>
      ((slotIn fl k x = true ∧ en = .returned (.tuple #[cV e a (.slice LA n lc) (.slice RA n rc) (.slice MA k mc), .bool false])) ∨
       (slotIn fl k x = false ∧ ∃ g cap, en = .returned (.tuple #[cV e a (.slice LA n lc) (.slice RA n rc) (.slice (some ⟨g, 0, none⟩) (k + 1) cap), .bool true]) ∧ w.heap.size ≤ g ∧ Rd2 w' w'.heap.size (some ⟨g, 0, none⟩) (k + 1) (fl ++ [x, (e : Int)]))) ∧ Below w.heap.size w w' := by
  unfold cV
  have K0 := CB.new w #[.int .i64 e, .slice LA n lc, .slice RA n rc, .slice MA k mc, .int .i64 a]
  have HR := Lib.hid hr
  clear hr
  go_enter Try.func14, Try.ntmps14
  go_upto_region 1 with fail
  obtain ⟨w0, hw0⟩ : ∃ x, (w.alloc (.cells #[.int .i64 e, .slice LA n lc, .slice RA n rc, .slice MA k mc, .int .i64 a] 31)).alloc (.cells c0s 31) = x := ⟨_, rfl⟩
  have hw0' := hw0
  unfold c0s at hw0'
  rw [hw0] at K0
  rw [hw0']
  have H0 := Lib.hid K0
  clear hw0 hw0' K0
  have z3 := H0.out.k0.cell 3
  go_wp2_with fail
  clear z3
  go_loopw [11] (fun i wx => ∃ j : Nat, j ≤ k ∧ i = .int .i64 j ∧ Hid (slotIn fl j x = false) ∧ Hid (CB w wx w.heap.size #[.int .i64 e, .slice LA n lc, .slice RA n rc, .slice MA k mc, .int .i64 a] c0s)) (fun i _ => k - (intOf i).toNat)
  case atStart => exact ⟨0, Nat.zero_le _, rfl, rfl, H0⟩
  case round =>
    clear H0
    obtain ⟨j, hj, rfl, hv, H⟩ := hrel
    by_cases hlt : j < k
    · obtain ⟨b', o, rfl, _, hc1, hc2⟩ := (HR.out.below H.out.bel).at_ hlt
      have hs := slotIn_succ fl j x
      rw [hv.out, Bool.false_or] at hs
      obtain ⟨y, hy⟩ : ∃ y, ig fl (j * 2) = y := ⟨_, rfl⟩
      obtain ⟨z, hz⟩ : ∃ z, ig fl (j * 2 + 1) = z := ⟨_, rfl⟩
      rw [hy] at hc1 hs
      rw [hz] at hc2
      have hbx := Blk.new wr 61 #[.int .i64 y, .int .i64 z]
      have hbb : Below wr.heap.size wr (wr.alloc (.cells #[.int .i64 y, .int .i64 z] 61)) := (Below.refl _ _).alloc (Nat.le_refl _) _
      have H1 := Lib.hid (H.out.below hbb)
      have q0 := hbx.cell 0
      have K4 := H1.out.done (.int .i64 e) (.slice LA n lc) (.slice RA n rc) (.slice (some ⟨b', o, none⟩) k mc) (.int .i64 a)
      obtain ⟨⟨z0, z1, z2, z3, z4⟩, _, ⟨u0, u1, u2, u3, u4⟩, _, f0, _, f2, _⟩ := H1.out.facts
      cases hq : (y == x) with
      | true =>
        rw [hq] at hs
        have HA : Hid (slotIn fl k x = true) := slotIn_mono hs (by omega)
        clear hbx hbb hs hy hz
        go_wp2_with fail
        change bodyPost _ _ _ _ _ (put5 (wr.alloc (.cells #[.int .i64 y, .int .i64 z] 61)) (w.heap.size + 1) (.int .i64 e) (.slice LA n lc) (.slice RA n rc) (.slice (some ⟨b', o, none⟩) k mc) (.int .i64 a))
        obtain ⟨wF, hF⟩ : ∃ x, put5 (wr.alloc (.cells #[.int .i64 y, .int .i64 z] 61)) (w.heap.size + 1) (.int .i64 e) (.slice LA n lc) (.slice RA n rc) (.slice (some ⟨b', o, none⟩) k mc) (.int .i64 a) = x := ⟨_, rfl⟩
        rw [hF] at K4 ⊢
        have m0 := K4.k1.cell 0
        have m1 := K4.k1.cell 1
        have m2 := K4.k1.cell 2
        have m3 := K4.k1.cell 3
        have m4 := K4.k1.cell 4
        refine bodyPost_ret (v := .tuple #[.agg #[.int .i64 e, .slice LA n lc, .slice RA n rc, .slice (some ⟨b', o, none⟩) k mc, .int .i64 a], .bool false]) ?_ rfl ⟨Or.inl ⟨HA.out, rfl⟩, K4.bel⟩
        simp [results, Try.results14, go_sem, m0, m1, m2, m3, m4]
      | false =>
        rw [hq] at hs
        have HS := Lib.hid hs
        clear hbx hbb hs hy hz K4
        go_wp2_with fail
        go_roundw
        case rel => exact ⟨j + 1, by omega, by go_num, HS, H1⟩
        case measure => simp [intOf]; omega
    · obtain rfl : j = k := by omega
      go_upto_region 7 with fail
      have z3 : wr.drew.cell? ⟨w.heap.size, 3, none⟩ = some (.slice MA j mc) := H.out.k0.cell 3
      have z0 : wr.drew.cell? ⟨w.heap.size, 0, none⟩ = some (.int .i64 e) := H.out.k0.cell 0
      have z3' : wr.cell? ⟨w.heap.size, 3, none⟩ = some (.slice MA j mc) := H.out.k0.cell 3
      have z0' : wr.cell? ⟨w.heap.size, 0, none⟩ = some (.int .i64 e) := H.out.k0.cell 0
      have a3 : (wr.alloc (.cells #[] 61)).cell? ⟨w.heap.size, 3, none⟩ = some (.slice MA j mc) := (H.out.k0.alloc _).cell 3
      have a0 : (wr.alloc (.cells #[] 61)).cell? ⟨w.heap.size, 0, none⟩ = some (.int .i64 e) := (H.out.k0.alloc _).cell 0
      have d3 : (wr.alloc (.cells #[.int .i64 x, .int .i64 e] 61)).cell? ⟨w.heap.size, 3, none⟩ = some (.slice MA j mc) := (H.out.k0.alloc _).cell 3
      have d0 : (wr.alloc (.cells #[.int .i64 x, .int .i64 e] 61)).cell? ⟨w.heap.size, 0, none⟩ = some (.int .i64 e) := (H.out.k0.alloc _).cell 0
      have a3d : (wr.alloc (.cells #[] 61)).drew.cell? ⟨w.heap.size, 3, none⟩ = some (.slice MA j mc) := a3
      have a0d : (wr.alloc (.cells #[] 61)).drew.cell? ⟨w.heap.size, 0, none⟩ = some (.int .i64 e) := a0
      have d3d : (wr.alloc (.cells #[.int .i64 x, .int .i64 e] 61)).drew.cell? ⟨w.heap.size, 3, none⟩ = some (.slice MA j mc) := d3
      have da3 : ((wr.alloc (.cells #[.int .i64 x, .int .i64 e] 61)).alloc (.cells #[] 61)).cell? ⟨w.heap.size, 3, none⟩ = some (.slice MA j mc) := ((H.out.k0.alloc _).alloc _).cell 3
      have ad3 : ((wr.alloc (.cells #[] 61)).alloc (.cells #[.int .i64 x, .int .i64 e] 61)).cell? ⟨w.heap.size, 3, none⟩ = some (.slice MA j mc) := ((H.out.k0.alloc _).alloc _).cell 3
      have hN := H.out.lt
      have eA : (wr.drew.alloc (.cells #[] 61)).heap.size = wr.heap.size + 1 := by show (wr.heap.push _).size = _; simp
      have eD : (wr.drew.alloc (.cells #[.int .i64 x, .int .i64 e] 61)).heap.size = wr.heap.size + 1 := by show (wr.heap.push _).size = _; simp
      have oA := own_new2 wr.drew
      have oAD := oA.alloc (.cells #[.int .i64 x, .int .i64 e] 61)
      have oDA := own_le (own_new2 (wr.drew.alloc (.cells #[.int .i64 x, .int .i64 e] 61))) (base' := wr.heap.size) (by omega)
      have dAD := heap_alloc_new (wr.drew.alloc (.cells #[] 61)) (.cells #[.int .i64 x, .int .i64 e] 61)
      have dDA := (Blk.new wr.drew 61 #[.int .i64 x, .int .i64 e]).alloc (.cells #[] 61)
      unfold Blk at dDA
      rw [eA] at dAD
      rw [eD] at oDA
      have bA : Below wr.heap.size wr (wr.drew.alloc (.cells #[] 61)) := (below_drewN (Below.refl _ wr) 1).alloc (Nat.le_refl _) _
      have bD : Below wr.heap.size wr (wr.drew.alloc (.cells #[.int .i64 x, .int .i64 e] 61)) := (below_drewN (Below.refl _ wr) 1).alloc (Nat.le_refl _) _
      have bAD := bA.alloc (by rw [eA]; omega) (.cells #[.int .i64 x, .int .i64 e] 61)
      have bDA := bD.alloc (by rw [eD]; omega) (.cells #[] 61)
      replace oA := Lib.hid oA
      replace oAD := Lib.hid oAD
      replace oDA := Lib.hid oDA
      replace dAD := Lib.hid dAD
      replace dDA := Lib.hid dDA
      replace bA := Lib.hid bA
      replace bAD := Lib.hid bAD
      replace bDA := Lib.hid bDA
      clear eA eD bD
      rcases hM with ⟨rfl, rfl, rfl⟩ | hpos
      · have hnil : Hid (fl = []) := List.length_eq_zero_iff.1 (by simpa using HR.out.1)
        go_region_law (first
          | (refine step_push2_none rfl (.tmp 21) (.tmp 23) rfl _ wr.heap.size _ 0 [] rfl (by first | exact oA.out | exact oAD.out | exact oDA.out) rfl ?_)
          | (refine step_push2 rfl (.tmp 24) (.tmp 29) rfl _ wr.heap.size _ 0 _ [] rfl (by first | exact oAD.out | exact oDA.out) ⟨_, 0, none⟩ 1 _ [x, (e : Int)] rfl rfl (by first | exact pair_cells dAD.out | exact pair_cells dDA.out) (by decide) 1 rfl (by decide) [x, (e : Int)] rfl (by first | exact bAD.out.size | exact bDA.out.size) ?_; intro g cap w5 hown hgb hb _; have K5 : CB w w5 w.heap.size _ c0s := H.out.below (by first | exact bAD.out.trans hb | exact bDA.out.trans hb); have y3 := K5.k0.cell 3; have f3 := K5.k0.frozen 3; replace K5 := Lib.hid K5; replace hown := Lib.hid hown; replace hgb := Lib.hid hgb; clear hb))
        all_goals
          have hgn := hgb.out
          have K6 : CB w _ w.heap.size #[.int .i64 e, .slice LA n lc, .slice RA n rc, .slice (some ⟨g, 0, none⟩) (1) cap, .int .i64 a] c0s := K5.out.set0 3 (.slice (some ⟨g, 0, none⟩) (1) cap)
          have r6 := (Rd2.of_own hown.out).far (Off.fresh (S := fun k => k = w.heap.size) (by omega)) ((Tch.refl (fun k => k = w.heap.size) w5).setCell (g := w.heap.size) rfl 3 (.slice (some ⟨g, 0, none⟩) (1) cap))
          have r7 := Lib.hid (r6.far (Off.fresh (S := fun k => k = w.heap.size + 1) (by omega)) (put5_tch _ (w.heap.size + 1) (.int .i64 e) (.slice LA n lc) (.slice RA n rc) (.slice (some ⟨g, 0, none⟩) (1) cap) (.int .i64 a)))
          have K4 := K6.done (.int .i64 e) (.slice LA n lc) (.slice RA n rc) (.slice (some ⟨g, 0, none⟩) (1) cap) (.int .i64 a)
          obtain ⟨⟨q0, q1, q2, q3, q4⟩, _, ⟨u0, u1, u2, u3, u4⟩, _, g0, _, g2, _⟩ := K6.facts
          clear r6 K6 K5 hown oA oAD oDA dAD dDA bA bAD bDA 
          go_wp2_with fail
          change bodyPost _ _ _ _ _ (put5 (w5.setCell ⟨w.heap.size, 3, none⟩ (.slice (some ⟨g, 0, none⟩) (1) cap)) (w.heap.size + 1) (.int .i64 e) (.slice LA n lc) (.slice RA n rc) (.slice (some ⟨g, 0, none⟩) (1) cap) (.int .i64 a))
          obtain ⟨wF, hF⟩ : ∃ x, put5 (w5.setCell ⟨w.heap.size, 3, none⟩ (.slice (some ⟨g, 0, none⟩) (1) cap)) (w.heap.size + 1) (.int .i64 e) (.slice LA n lc) (.slice RA n rc) (.slice (some ⟨g, 0, none⟩) (1) cap) (.int .i64 a) = x := ⟨_, rfl⟩
          rw [hF] at K4 r7 ⊢
          have m0 := K4.k1.cell 0
          have m1 := K4.k1.cell 1
          have m2 := K4.k1.cell 2
          have m3 := K4.k1.cell 3
          have m4 := K4.k1.cell 4
          refine bodyPost_ret (v := .tuple #[.agg #[.int .i64 e, .slice LA n lc, .slice RA n rc, .slice (some ⟨g, 0, none⟩) (1) cap, .int .i64 a], .bool true]) ?_ rfl ⟨Or.inr ⟨hv.out, g, cap, rfl, by omega, by rw [hnil.out]; exact r7.out⟩, K4.bel⟩
          simp [results, Try.results14, go_sem, m0, m1, m2, m3, m4]
      · have hfl : Hid (fl.length = j * 2) := HR.out.1
        have hj1 : Hid (0 + j = j) := Nat.zero_add j
        have hj2 : Hid (j ≤ 1048577) := by show _ ≤ _; omega
        have hj3 : Hid (j + 1 ≤ 1048577) := by show _ ≤ _; omega
        have hps : Hid (0 < j) := hpos
        obtain ⟨mb, mo, rfl, hmb, hmc⟩ := HR.out.2 hpos
        have hml : mb < wr.heap.size := by omega
        have hcl : ∀ W, Below wr.heap.size wr W → ∀ i, i < fl.length → W.cell? (Addr.add ⟨mb, mo, none⟩ i) = some (.int .i64 (ig fl i)) := by
          intro W hW i hi
          rw [Addr.add_lit]
          exact (hW.cell (p := ⟨mb, mo + i, none⟩) hml).trans ((H.out.bel.cell (p := ⟨mb, mo + i, none⟩) hmb).trans (hmc i (by rw [hfl.out] at hi; exact hi)))
        have HCL := Lib.hid hcl
        clear hcl hmc hmb hpos
        go_region_law (first
          | (refine step_push2 rfl (.tmp 21) (.tmp 23) rfl _ wr.heap.size _ 0 _ [] rfl (by first | exact oA.out | exact oAD.out | exact oDA.out) ⟨mb, mo, none⟩ j _ fl rfl hfl.out (by first | exact HCL.out _ bA.out | exact HCL.out _ bAD.out | exact HCL.out _ bDA.out) hps.out j hj1.out hj2.out fl rfl (by first | exact bA.out.size | exact bAD.out.size | exact bDA.out.size) ?_; intro g1 cap1 w4 hown1 hgb1 hb1 hk1; have BW : Hid (Below wr.heap.size wr w4) := (by first | exact bA.out.trans hb1 | exact bAD.out.trans hb1 | exact bDA.out.trans hb1); have K3 : CB w w4 w.heap.size _ c0s := H.out.below BW.out; have t0 := K3.k0.cell 0; have t0' := (K3.k0.alloc (.cells #[.int .i64 x, .int .i64 e] 61)).cell 0; have HD : Hid (w4.heap[wr.heap.size + 1]? = some (.cells #[.int .i64 x, .int .i64 e] 61 (0, 0)) ∨ w4.heap[wr.heap.size]? = some (.cells #[.int .i64 x, .int .i64 e] 61 (0, 0)) ∨ True) := (by first | exact Or.inr (Or.inr trivial)); replace K3 := Lib.hid K3; replace hown1 := Lib.hid hown1; replace hgb1 := Lib.hid hgb1; replace hk1 := Lib.hid hk1; clear hb1)
          | (refine step_push2 rfl (.tmp 24) (.tmp 29) rfl _ wr.heap.size _ j _ fl rfl (by first | exact hown1.out | exact hown1.out.alloc _) ⟨_, 0, none⟩ 1 _ [x, (e : Int)] rfl rfl (by first | exact pair_cells (heap_alloc_new w4 _) | exact pair_cells ((hk1.out (wr.heap.size + 1) (by have h := bAD.out.size; exact (Array.getElem?_eq_some_iff.1 dAD.out).1) (by simp [Value.ownBlock])).trans dAD.out) | exact pair_cells ((hk1.out wr.heap.size (Array.getElem?_eq_some_iff.1 dDA.out).1 (by simp [Value.ownBlock])).trans dDA.out)) (by decide) (j + 1) rfl hj3.out (fl ++ [x, (e : Int)]) rfl (by first | exact BW.out.size | exact (BW.out.alloc BW.out.size _).size) ?_; intro g cap w5 hown hgb hb _; have K5 : CB w w5 w.heap.size _ c0s := H.out.below (by first | exact BW.out.trans hb | exact (BW.out.alloc BW.out.size _).trans hb); have y3 := K5.k0.cell 3; have f3 := K5.k0.frozen 3; replace K5 := Lib.hid K5; replace hown := Lib.hid hown; replace hgb := Lib.hid hgb; clear hb))
        all_goals
          have hgn := hgb.out
          have K6 : CB w _ w.heap.size #[.int .i64 e, .slice LA n lc, .slice RA n rc, .slice (some ⟨g, 0, none⟩) (j + 1) cap, .int .i64 a] c0s := K5.out.set0 3 (.slice (some ⟨g, 0, none⟩) (j + 1) cap)
          have r6 := (Rd2.of_own hown.out).far (Off.fresh (S := fun k => k = w.heap.size) (by omega)) ((Tch.refl (fun k => k = w.heap.size) w5).setCell (g := w.heap.size) rfl 3 (.slice (some ⟨g, 0, none⟩) (j + 1) cap))
          have r7 := Lib.hid (r6.far (Off.fresh (S := fun k => k = w.heap.size + 1) (by omega)) (put5_tch _ (w.heap.size + 1) (.int .i64 e) (.slice LA n lc) (.slice RA n rc) (.slice (some ⟨g, 0, none⟩) (j + 1) cap) (.int .i64 a)))
          have K4 := K6.done (.int .i64 e) (.slice LA n lc) (.slice RA n rc) (.slice (some ⟨g, 0, none⟩) (j + 1) cap) (.int .i64 a)
          obtain ⟨⟨q0, q1, q2, q3, q4⟩, _, ⟨u0, u1, u2, u3, u4⟩, _, g0, _, g2, _⟩ := K6.facts
          clear r6 K6 K5 hown oA oAD oDA dAD dDA bA bAD bDA HCL BW K3 hown1 hk1
          go_wp2_with fail
          change bodyPost _ _ _ _ _ (put5 (w5.setCell ⟨w.heap.size, 3, none⟩ (.slice (some ⟨g, 0, none⟩) (j + 1) cap)) (w.heap.size + 1) (.int .i64 e) (.slice LA n lc) (.slice RA n rc) (.slice (some ⟨g, 0, none⟩) (j + 1) cap) (.int .i64 a))
          obtain ⟨wF, hF⟩ : ∃ x, put5 (w5.setCell ⟨w.heap.size, 3, none⟩ (.slice (some ⟨g, 0, none⟩) (j + 1) cap)) (w.heap.size + 1) (.int .i64 e) (.slice LA n lc) (.slice RA n rc) (.slice (some ⟨g, 0, none⟩) (j + 1) cap) (.int .i64 a) = x := ⟨_, rfl⟩
          rw [hF] at K4 r7 ⊢
          have m0 := K4.k1.cell 0
          have m1 := K4.k1.cell 1
          have m2 := K4.k1.cell 2
          have m3 := K4.k1.cell 3
          have m4 := K4.k1.cell 4
          refine bodyPost_ret (v := .tuple #[.agg #[.int .i64 e, .slice LA n lc, .slice RA n rc, .slice (some ⟨g, 0, none⟩) (j + 1) cap, .int .i64 a], .bool true]) ?_ rfl ⟨Or.inr ⟨hv.out, g, cap, rfl, by omega, r7.out⟩, K4.bel⟩
          simp [results, Try.results14, go_sem, m0, m1, m2, m3, m4]
end Go.Proofs.Ytcpgapnikgchaaa
