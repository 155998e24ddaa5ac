/- The document's clock: Free. -/
import Derived.Test.YtcpgapnikgchaaaEpV
namespace Go.Proofs.Ytcpgapnikgchaaa
open Go.RowKit
/-- 'append(s, u)' on a row of one's own: what is no part of it stays. -/
theorem wpList_app {ops : Array Oper} {rest : List Oper} {o : Oper} {a : Act} {Q : Exit → Act → World → Prop} (hgd : o.guard = none) (s x : Operand) (T e : TypeId) (i : TypeInfo) (z : Value) (sz by_ : Nat)
    (ho : o.op = .call { callee := .builtin .append, args := #[s, x], argTypes := #[T, T] })
    (ht : Try.prog.underlying T = some (.slice e)) (hi : Try.prog.info? e = some i) (hz : i.zero = some z) (hsize : i.size = sz) (hby : i.bytes = by_) (hzs : z.cells.size = sz) (hsz : 0 < sz) (hb16 : by_ ≤ 16)
    (W : World) (base : Nat) (A : Option Addr) (n c : Nat) (xs : List Value) (hs : a.eval s = .slice A n c) (hown : W.ownsRow base e sz (.slice A n c) n xs)
    (b : Nat) (c' : Nat) (cs : Array Value) (hx : a.eval x = .slice (some ⟨b, 0, none⟩) 1 c') (hb : W.heap[b]? = some (.cells cs e (0, 0))) (hcs : cs.size = sz) (h1 : ∀ u ∈ cs.toList, u.oneCell' = true)
    (hn : n ≤ 1048576) (hbase : base ≤ W.heap.size)
    (h : ∀ g cap w', w'.ownsRow base e sz (.slice (some ⟨g, 0, none⟩) (n + 1) cap) (n + 1) (xs ++ cs.toList) → base ≤ g → Below base W w' → (∀ k, k < W.heap.size → (Value.slice A n c).ownBlock ≠ some k → w'.heap[k]? = W.heap[k]?) → wpList Try.prog ops Q rest (a.put o.dst (.slice (some ⟨g, 0, none⟩) (n + 1) cap)) w') :
    wpList Try.prog ops Q (o :: rest) a W := by
  have hm : (n + 1) * by_ ≤ (n + 1) * 16 := Nat.mul_le_mul_left _ hb16
  refine wpList_append_lies W hgd s x T ho base e i z sz by_ ht hi hz hsize hby hzs hsz (.slice A n c) n xs hs hown ⟨b, 0, none⟩ 1 c' cs.toList hx (by simpa using hcs) (World.news_of_block hb) h1 (by decide)
    (by unfold maxLen; omega) (by omega) hbase _ rfl ?_
  intro g cap w' hown' hg hat hlt
  have hb : Below base W w' := (Below.refl base W).grown hg hbase fun k hk => (hown.lt k hk).1
  exact h g cap w' hown' (own_block hown' rfl).1 hb fun k hk hne => hg.block k hk fun e => hne e.symm
/-- Rows of two types lie in two blocks. -/
theorem own_apart {w : World} {b1 b2 t1 t2 s1 s2 n1 n2 : Nat} {v1 v2 : Value} {x1 x2 : List Value} (h1 : w.ownsRow b1 t1 s1 v1 n1 x1) (h2 : w.ownsRow b2 t2 s2 v2 n2 x2) (ht : t1 ≠ t2) : ∀ g, v1.ownBlock = some g → v2.ownBlock ≠ some g := by
  intro g hg hg2
  rcases h1.2 with ⟨rfl, _⟩ | ⟨g1, cap, cur, rfl, _, h3, _⟩
  · cases hg
  · rcases h2.2 with ⟨rfl, _⟩ | ⟨g2, cap2, cur2, rfl, _, h4, _⟩
    · cases hg2
    · injection hg with hg
      injection hg2 with hg2
      simp only at hg hg2
      subst hg hg2
      rw [h3] at h4
      injection h4 with h4
      injection h4 with _ h4
      exact ht h4
theorem own_keep1 {w w' : World} {base t size n : Nat} {v : Value} {xs : List Value} (h : w.ownsRow base t size v n xs) (hk : ∀ g, v.ownBlock = some g → g < w.heap.size → w'.heap[g]? = w.heap[g]?) : w'.ownsRow base t size v n xs := by
  refine ⟨h.1, ?_⟩
  rcases h.2 with q | ⟨g, cap, cur, rfl, h2, h3, h4⟩
  · exact Or.inl q
  · exact Or.inr ⟨g, cap, cur, rfl, h2, (hk g rfl (Array.getElem?_eq_some_iff.1 h3).1).trans h3, h4⟩
theorem CB.below2 {w0 w w' : World} {b : Nat} {cs zs : Array Value} (h : CB w0 w b cs zs) (hb : Below (b + 2) w w') : CB w0 w' b cs zs :=
  ⟨h.k0.below hb (by omega), h.k1.below hb (by omega), h.bel.trans (hb.mono (by omega)), Nat.le_trans h.lt hb.size⟩
set_option maxRecDepth 100000 in
set_option maxHeartbeats 4000000 in
theorem r_free (e a : Nat) (LA RA MA : Option Addr) (n lc rc k mc : Nat) (fl : List Int) (w : World) (hr : Rd2 w w.heap.size MA k fl) (hk : k ≤ 1048576) (hge : ∀ j, j < k → 0 ≤ ig fl (j * 2 + 1) ∧ ig fl (j * 2 + 1) ≤ 4611686018427387904) :
    Calls Try.prog 18 #[cV e a (.slice LA n lc) (.slice RA n rc) (.slice MA k mc)] w fun en w' =>
      (∃ A n1 c1 B n2 c2, en = .returned (.tuple #[cV e a (.slice LA n lc) (.slice RA n rc) (.slice B n2 c2), .slice A n1 c1]) ∧ Rd w' w'.heap.size A n1 ((outN fl e k).map (.int .i64)) ∧ Rd2 w' w'.heap.size B n2 (keptN fl e k) ∧
        ((n2 = 0 ∧ B = none ∧ c2 = 0) ∨ 0 < n2) ∧ (∀ g, B = some g → w.heap.size ≤ g.block) ∧ (∀ g, A = some g → w.heap.size ≤ g.block)) ∧ Below w.heap.size w w' := by
  unfold cV
  obtain ⟨ri, rz, ri1, rz1, ri2, ri3, rz2⟩ := ref_info
  obtain ⟨ii, iz, ii1, iz1, ii2, ii3, iz2⟩ := int_info
  have K0 := CB.new w #[.int .i64 e, .slice LA n lc, .slice RA n rc, .slice MA k mc, .int .i64 a]
  have HR := Lib.hid hr
  have HGE := Lib.hid hge
  clear hr hge
  go_enter Try.func18, Try.ntmps18
  go_upto_region 1 with fail
  obtain ⟨w0, hw0⟩ : ∃ x, (w.alloc (.cells #[.int .i64 e, .slice LA n lc, .slice RA n rc, .slice MA k mc, .int .i64 a] 31)).alloc (.cells c0s 31) = x := ⟨_, rfl⟩
  have hw0' := hw0
  unfold c0s at hw0'
  rw [hw0] at K0
  rw [hw0']
  have H0 := Lib.hid K0
  clear hw0 hw0' K0
  have z3 := H0.out.k0.cell 3
  go_wp2_with fail
  clear z3
  go_loopw [4, 5, 11] (fun u v i wx => ∃ (j : Nat) (A : Option Addr) (n1 c1 : Nat) (B : Option Addr) (n2 c2 : Nat), j ≤ k ∧ i = .int .i64 j ∧ u = .slice A n1 c1 ∧ v = .slice B n2 c2 ∧ n1 ≤ j ∧ n2 ≤ j ∧ Hid (wx.ownsRow (w.heap.size + 2) 3 1 (.slice A n1 c1) n1 ((outN fl e j).map (.int .i64))) ∧ Hid (wx.ownsRow (w.heap.size + 2) 61 2 (.slice B n2 c2) n2 ((keptN fl e j).map (.int .i64))) ∧ Hid ((n2 = 0 ∧ B = none ∧ c2 = 0) ∨ 0 < n2) ∧ Hid (CB w wx w.heap.size #[.int .i64 e, .slice LA n lc, .slice RA n rc, .slice MA k mc, .int .i64 a] c0s)) (fun _ _ i _ => k - (intOf i).toNat)
  case atStart => exact ⟨0, none, 0, 0, none, 0, 0, Nat.zero_le _, rfl, rfl, rfl, Nat.le_refl _, Nat.le_refl _, World.ownsRow_nil _ _ _ _, World.ownsRow_nil _ _ _ _, Or.inl ⟨rfl, rfl, rfl⟩, H0⟩
  case round =>
    clear H0
    obtain ⟨j, A, n1, c1, B, n2, c2, hj, rfl, rfl, rfl, hn1, hn2, HA, HB, HN, H⟩ := hrel
    by_cases hlt : j < k
    · obtain ⟨b', o, rfl, _, hc1, hc2⟩ := (HR.out.below H.out.bel).at_ hlt
      obtain ⟨y, hy⟩ : ∃ y, ig fl (j * 2) = y := ⟨_, rfl⟩
      obtain ⟨z, hz⟩ : ∃ z, ig fl (j * 2 + 1) = z := ⟨_, rfl⟩
      have hzr := HGE.out j hlt
      rw [hz] at hzr
      rw [hy] at hc1
      rw [hz] at hc2
      have hrp : ripe fl e j = decide (z ≤ (e : Int) - 2) := by unfold ripe; rw [hz]
      have hbx := Blk.new wr 61 #[.int .i64 y, .int .i64 z]
      have hbb : Below wr.heap.size wr (wr.alloc (.cells #[.int .i64 y, .int .i64 z] 61)) := (Below.refl _ _).alloc (Nat.le_refl _) _
      have H1 := Lib.hid (H.out.below hbb)
      have q0 := hbx.cell 0
      have q1 := hbx.cell 1
      have z0 := H1.out.k0.cell 0
      have HA1 := HA.out.alloc (.cells #[.int .i64 y, .int .i64 z] 61)
      have HB1 := HB.out.alloc (.cells #[.int .i64 y, .int .i64 z] 61)
      have eS : (wr.alloc (.cells #[.int .i64 y, .int .i64 z] 61)).heap.size = wr.heap.size + 1 := by simp only [World.alloc, Array.size_push]
      have hzr1 := hzr.1
      have hzr2 := hzr.2
      cases hq : decide (z ≤ (e : Int) - 2) with
      | true =>
        have t1 : decide (z + 2 ≤ (e : Int)) = true := by simp at hq ⊢; omega
        rw [hq] at hrp
        have hD := heap_alloc_new (wr.alloc (.cells #[.int .i64 y, .int .i64 z] 61)) (.cells #[.int .i64 y] 3)
        have HA2 := HA1.alloc (.cells #[.int .i64 y] 3)
        have HB2 := HB1.alloc (.cells #[.int .i64 y] 3)
        have hb2 : Below wr.heap.size wr ((wr.alloc (.cells #[.int .i64 y, .int .i64 z] 61)).alloc (.cells #[.int .i64 y] 3)) := hbb.alloc (by omega) _
        rw [eS] at hD
        replace HA2 := Lib.hid HA2
        replace HB2 := Lib.hid HB2
        replace hD := Lib.hid hD
        replace hb2 := Lib.hid hb2
        have hap := Lib.hid (own_apart HB2.out HA2.out (by decide))
        have HO : Hid (outN fl e (j + 1) = outN fl e j ++ [y] ∧ keptN fl e (j + 1) = keptN fl e j) := ⟨by rw [outN_succ, hrp, hy]; rfl, by rw [keptN_succ, hrp]; simp⟩
        clear hbx hbb hq hy hz HA1 HB1 eS hrp
        go_wp2_with (at_builtin; refine wpList_app rfl (.tmp 21) (.tmp 24) 28 3 ii iz 1 8 rfl Try.underlying28 ii1 iz1 ii2 ii3 iz2 (by decide) (by decide) _ (w.heap.size + 2) A n1 c1 _ rfl HA2.out (wr.heap.size + 1) 1 #[.int .i64 y] rfl hD.out rfl (by simp [Value.oneCell']) (by omega) (Nat.le_trans H.out.lt hb2.out.size) ?_; intro g cap w' ho hgb hbw hkp; replace ho := Lib.hid ho; replace hkp := Lib.hid hkp; replace hbw := Lib.hid hbw)
        go_roundw
        case rel =>
          refine ⟨j + 1, _, _, _, B, n2, c2, hlt, by go_num, rfl, rfl, by omega, by omega, ?_, ?_, HN, H.out.below2 ((hb2.out.mono H.out.lt).trans hbw.out)⟩
          · rw [HO.out.1, List.map_append]; exact ho.out
          · rw [HO.out.2]
            exact own_keep1 HB2.out fun g' hg' hl => hkp.out g' hl fun e => hap.out g' hg' e
        case measure => simp [intOf]; omega
      | false =>
        have t1 : decide (z + 2 ≤ (e : Int)) = false := by simp at hq ⊢; omega
        rw [hq] at hrp
        have hD := heap_alloc_new (wr.alloc (.cells #[.int .i64 y, .int .i64 z] 61)) (.cells #[.int .i64 y, .int .i64 z] 61)
        have HA2 := HA1.alloc (.cells #[.int .i64 y, .int .i64 z] 61)
        have HB2 := HB1.alloc (.cells #[.int .i64 y, .int .i64 z] 61)
        have hb2 : Below wr.heap.size wr ((wr.alloc (.cells #[.int .i64 y, .int .i64 z] 61)).alloc (.cells #[.int .i64 y, .int .i64 z] 61)) := hbb.alloc (by omega) _
        rw [eS] at hD
        replace HA2 := Lib.hid HA2
        replace HB2 := Lib.hid HB2
        replace hD := Lib.hid hD
        replace hb2 := Lib.hid hb2
        have hap := Lib.hid (own_apart HA2.out HB2.out (by decide))
        have HO : Hid (outN fl e (j + 1) = outN fl e j ∧ keptN fl e (j + 1) = keptN fl e j ++ [y, z]) := ⟨by rw [outN_succ, hrp]; simp, by rw [keptN_succ, hrp, hy, hz]; rfl⟩
        clear hbx hbb hq hy hz HA1 HB1 eS hrp
        go_wp2_with (at_builtin; refine wpList_app rfl (.tmp 26) (.tmp 28) 29 61 ri rz 2 16 rfl Try.underlying29 ri1 rz1 ri2 ri3 rz2 (by decide) (by decide) _ (w.heap.size + 2) B n2 c2 _ rfl HB2.out (wr.heap.size + 1) 1 #[.int .i64 y, .int .i64 z] rfl hD.out rfl (by simp [Value.oneCell']) (by omega) (Nat.le_trans H.out.lt hb2.out.size) ?_; intro g cap w' ho hgb hbw hkp; replace ho := Lib.hid ho; replace hkp := Lib.hid hkp; replace hbw := Lib.hid hbw)
        go_roundw
        case rel =>
          refine ⟨j + 1, A, n1, c1, _, _, _, hlt, by go_num, rfl, rfl, by omega, by omega, ?_, ?_, Or.inr (Nat.succ_pos _), H.out.below2 ((hb2.out.mono H.out.lt).trans hbw.out)⟩
          · rw [HO.out.1]
            exact own_keep1 HA2.out fun g' hg' hl => hkp.out g' hl fun e => hap.out g' hg' e
          · rw [HO.out.2, List.map_append]; exact ho.out
        case measure => simp [intOf]; omega
    · obtain rfl : j = k := by omega
      have hbb : ∀ g, B = some g → w.heap.size + 2 ≤ g.block := by
        intro g hg
        subst hg
        rcases HB.out.2 with ⟨h, _⟩ | ⟨g', _, _, h, h2, _⟩
        · cases h
        · injection h with h
          injection h with h
          rw [h]; exact h2
      have haa : ∀ g, A = some g → w.heap.size + 2 ≤ g.block := by
        intro g hg
        subst hg
        rcases HA.out.2 with ⟨h, _⟩ | ⟨g', _, _, h, h2, _⟩
        · cases h
        · injection h with h
          injection h with h
          rw [h]; exact h2
      have hT1 : Tch (fun k => k = w.heap.size ∨ k = w.heap.size + 1) wr (wr.setCell ⟨w.heap.size, 3, none⟩ (.slice B n2 c2)) := (Tch.refl _ _).setCell (Or.inl rfl) _ _
      have hT2 := put5_tch (wr.setCell ⟨w.heap.size, 3, none⟩ (.slice B n2 c2)) (w.heap.size + 1) (.int .i64 e) (.slice LA n lc) (.slice RA n rc) (.slice B n2 c2) (.int .i64 a)
      have hT := hT1.trans hT2 fun k hk => Or.inl (Or.inr hk)
      have rA := Lib.hid ((Rd.of_own HA.out).far (S := fun k => k = w.heap.size ∨ k = w.heap.size + 1) (fun _ g hg => by have := haa g hg; omega) hT)
      have rB := Lib.hid ((Rd2.of_own HB.out).far (S := fun k => k = w.heap.size ∨ k = w.heap.size + 1) (fun _ g hg => by have := hbb g hg; omega) hT)
      have K6 : CB w _ w.heap.size #[.int .i64 e, .slice LA n lc, .slice RA n rc, .slice B n2 c2, .int .i64 a] c0s := H.out.set0 3 (.slice B n2 c2)
      have y3 := H.out.k0.cell 3
      have f3 := H.out.k0.frozen 3
      obtain ⟨⟨q0, q1, q2, q3, q4⟩, _, ⟨u0, u1, u2, u3, u4⟩, _, g0, _, g2, _⟩ := K6.facts
      have K4 := K6.done (.int .i64 e) (.slice LA n lc) (.slice RA n rc) (.slice B n2 c2) (.int .i64 a)
      have hbB : Hid (∀ g, B = some g → w.heap.size ≤ g.block) := fun g hg => by have := hbb g hg; omega
      have haA : Hid (∀ g, A = some g → w.heap.size ≤ g.block) := fun g hg => by have := haa g hg; omega
      clear hT1 hT2 hT hbb haa K6 HA HB
      go_wp2_with fail
      change bodyPost _ _ _ _ _ (put5 (wr.setCell ⟨w.heap.size, 3, none⟩ (.slice B n2 c2)) (w.heap.size + 1) (.int .i64 e) (.slice LA n lc) (.slice RA n rc) (.slice B n2 c2) (.int .i64 a))
      obtain ⟨wF, hF⟩ : ∃ x, put5 (wr.setCell ⟨w.heap.size, 3, none⟩ (.slice B n2 c2)) (w.heap.size + 1) (.int .i64 e) (.slice LA n lc) (.slice RA n rc) (.slice B n2 c2) (.int .i64 a) = x := ⟨_, rfl⟩
      rw [hF] at K4 rA rB ⊢
      have m0 := K4.k1.cell 0
      have m1 := K4.k1.cell 1
      have m2 := K4.k1.cell 2
      have m3 := K4.k1.cell 3
      have m4 := K4.k1.cell 4
      refine bodyPost_ret (v := .tuple #[.agg #[.int .i64 e, .slice LA n lc, .slice RA n rc, .slice B n2 c2, .int .i64 a], .slice A n1 c1]) ?_ rfl ⟨⟨A, n1, c1, B, n2, c2, rfl, rA.out, rB.out, HN.out, hbB.out, haA.out⟩, K4.bel⟩
      simp [results, Try.results18, go_sem, m0, m1, m2, m3, m4]
end Go.Proofs.Ytcpgapnikgchaaa
