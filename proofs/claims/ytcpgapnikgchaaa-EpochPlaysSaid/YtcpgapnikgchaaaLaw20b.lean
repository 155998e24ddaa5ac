/- Walk of the law EpochPlays. -/
import Derived.Test.YtcpgapnikgchaaaEpS
import Derived.Test.YtcpgapnikgchaaaLaw20
import Derived.Deep.Cut
import Derived.Deep.CutRange
import Derived.Deep.CutBlock
namespace Go.Proofs.Ytcpgapnikgchaaa
open Go.RowKit
/-- The document's clock in a box. -/
def Bx (w : World) (bx : Nat) (s : EpS) (LA RA MA : Option Addr) (lc rc mc : Nat) : Prop := Blk w bx 31 #[.int .i64 s.ep, .slice LA s.n lc, .slice RA s.n rc, .slice MA s.k mc, .int .i64 s.at_]
/-- The blocks that the document's lists are not in. -/
def plS (p : EpP) (bx : Nat) (k : Nat) : Prop := p.blk k ∨ k = bx
/-- What the law's loop keeps. -/
structure PlAt (w0 w : World) (g gw bx : Nat) (p : EpP) (s : EpS) (t : Nat) (LA RA MA : Option Addr) (lc rc mc : Nat) : Prop where
  inv : s.Inv t
  e : EpAt w w0.heap.size p s
  c : CAt w (plS p bx) s LA RA MA mc
  x : Bx w bx s LA RA MA lc rc mc
  nx : ¬ p.blk bx
  bxb : w0.heap.size ≤ bx
  pg : p.g = g
  pw : p.gw = gw
  b : Below w0.heap.size w0 w
/-- The same with a deed in its box. -/
structure PlD (w0 w : World) (g gw bx q : Nat) (kd nn : Int) (p : EpP) (s : EpS) (t : Nat) (LA RA MA : Option Addr) (lc rc mc : Nat) : Prop extends PlAt w0 w g gw bx p s t LA RA MA lc rc mc where
  d : Blk w q 35 #[.int .i64 kd, .int .i64 nn]
  nq : ¬ p.blk q
  qx : q ≠ bx
  qb : w0.heap.size ≤ q
/-- Between the document's step and the program's. -/
structure PlM (w0 w : World) (g gw bx q : Nat) (kd nn : Int) (p : EpP) (s s' : EpS) (t : Nat) (LA RA MA : Option Addr) (lc rc mc : Nat) : Prop where
  inv : s.Inv t
  inv' : s'.Inv (t + 1)
  e : EpAt w w0.heap.size p s
  c : CAt w (plS p bx) s' LA RA MA mc
  x : Bx w bx s' LA RA MA lc rc mc
  nx : ¬ p.blk bx
  bxb : w0.heap.size ≤ bx
  pg : p.g = g
  pw : p.gw = gw
  b : Below w0.heap.size w0 w
  d : Blk w q 35 #[.int .i64 kd, .int .i64 nn]
  nq : ¬ p.blk q
  qx : q ≠ bx
  qb : w0.heap.size ≤ q
theorem Tch.wide {S S' : Nat → Prop} {w w' : World} (h : Tch S w w') (hS : ∀ k, S k → S' k) : Tch S' w w' := ⟨h.os, h.tape, h.output, h.size, fun k hk hn => h.block k hk fun hs => hn (hS k hs)⟩
section
variable {w0 w w' : World} {g gw bx q : Nat} {kd nn : Int} {p : EpP} {s s' : EpS} {t : Nat} {LA RA MA : Option Addr} {lc rc mc : Nat}
theorem PlAt.below (h : PlAt w0 w g gw bx p s t LA RA MA lc rc mc) (hb : Below w.heap.size w w') : PlAt w0 w' g gw bx p s t LA RA MA lc rc mc :=
  ⟨h.inv, h.e.below hb, h.c.below hb, Blk.below h.x hb (Blk.lt h.x), h.nx, h.bxb, h.pg, h.pw, h.b.trans (hb.mono h.b.size)⟩
theorem PlAt.deed (h : PlAt w0 w g gw bx p s t LA RA MA lc rc mc) (kd nn : Int) : PlD w0 (w.alloc (.cells #[.int .i64 kd, .int .i64 nn] 35)) g gw bx w.heap.size kd nn p s t LA RA MA lc rc mc :=
  ⟨h.below ((Below.refl _ w).alloc (Nat.le_refl _) _), Blk.new _ _ _, fun q => by have := h.e.lt _ q; omega, by have := Blk.lt h.x; omega, h.b.size⟩
theorem PlD.below (h : PlD w0 w g gw bx q kd nn p s t LA RA MA lc rc mc) (hb : Below w.heap.size w w') : PlD w0 w' g gw bx q kd nn p s t LA RA MA lc rc mc :=
  ⟨h.toPlAt.below hb, h.d.below hb h.d.lt, h.nq, h.qx, h.qb⟩
theorem PlD.drewN (h : PlD w0 w g gw bx q kd nn p s t LA RA MA lc rc mc) (n : Nat) : PlD w0 (w.drewN n) g gw bx q kd nn p s t LA RA MA lc rc mc :=
  ⟨⟨h.inv, h.e.drewN n, h.c.drewN n, h.x, h.nx, h.bxb, h.pg, h.pw, below_drewN h.b n⟩, h.d, h.nq, h.qx, h.qb⟩
theorem PlD.facts (h : PlD w0 w g gw bx q kd nn p s t LA RA MA lc rc mc) :
    (w.cell? ⟨q, 0, none⟩ = some (.int .i64 kd) ∧ w.cell? ⟨q, 1, none⟩ = some (.int .i64 nn)) ∧
    (w.cell? ⟨bx, 0, none⟩ = some (.int .i64 s.ep) ∧ w.cell? ⟨bx, 1, none⟩ = some (.slice LA s.n lc) ∧ w.cell? ⟨bx, 2, none⟩ = some (.slice RA s.n rc) ∧ w.cell? ⟨bx, 3, none⟩ = some (.slice MA s.k mc) ∧ w.cell? ⟨bx, 4, none⟩ = some (.int .i64 s.at_)) ∧ ∀ i, w.frozen? ⟨bx, i, none⟩ = false :=
  ⟨⟨h.d.cell 0, h.d.cell 1⟩, ⟨Blk.cell h.x 0, Blk.cell h.x 1, Blk.cell h.x 2, Blk.cell h.x 3, Blk.cell h.x 4⟩, Blk.frozen h.x⟩
theorem PlM.facts (h : PlM w0 w g gw bx q kd nn p s s' t LA RA MA lc rc mc) : w.cell? ⟨q, 0, none⟩ = some (.int .i64 kd) ∧ w.cell? ⟨q, 1, none⟩ = some (.int .i64 nn) := ⟨h.d.cell 0, h.d.cell 1⟩
theorem PlD.mid (h : PlD w0 w g gw bx q kd nn p s t LA RA MA lc rc mc) {w1 : World} {LA' RA' MA' : Option Addr} {mc' : Nat} (hc : CAt w1 (plS p bx) s' LA' RA' MA' mc') (hb : Below w.heap.size w w1) (hi : s'.Inv (t + 1)) (lc' rc' : Nat) (cs : Array Value) :
    PlM w0 (put5 (w1.alloc (.cells cs 31)) bx (.int .i64 s'.ep) (.slice LA' s'.n lc') (.slice RA' s'.n rc') (.slice MA' s'.k mc') (.int .i64 s'.at_)) g gw bx q kd nn p s s' t LA' RA' MA' lc' rc' mc' := by
  have hb2 : Below w1.heap.size w1 (w1.alloc (.cells cs 31)) := (Below.refl _ _).alloc (Nat.le_refl _) _
  have h2 := (h.below hb).below hb2
  have hT := put5_tch (w1.alloc (.cells cs 31)) bx (.int .i64 s'.ep) (.slice LA' s'.n lc') (.slice RA' s'.n rc') (.slice MA' s'.k mc') (.int .i64 s'.at_)
  have hx : Blk _ bx 31 _ := (((((Blk.set_ h2.x 0 (.int .i64 s'.ep)).set_ 1 (.slice LA' s'.n lc')).set_ 2 (.slice RA' s'.n rc')).set_ 3 (.slice MA' s'.k mc')).set_ 4 (.int .i64 s'.at_))
  have hc2 := (hc.below hb2).far (hT.wide fun k hk => Or.inr hk) (S' := plS p bx) fun _ hk => Or.inl hk
  have hB : Below w0.heap.size w0 (put5 (w1.alloc (.cells cs 31)) bx (.int .i64 s'.ep) (.slice LA' s'.n lc') (.slice RA' s'.n rc') (.slice MA' s'.k mc') (.int .i64 s'.at_)) := h2.b.trans (hT.below h2.b.size fun k hk => by rw [hk]; exact h.bxb)
  refine ⟨h.inv, hi, h2.e.keep fun k hk => hT.block k (h2.e.lt k hk) (fun e => h.nx (by rw [← e]; exact hk)), hc2, hx, h.nx, h.bxb, h.pg, h.pw, hB, ?_, h.nq, h.qx, h.qb⟩
  exact (hT.block q h2.d.lt h.qx).trans h2.d
theorem PlM.prog (h : PlM w0 w g gw bx q kd nn p s s' t LA RA MA lc rc mc) {p' : EpP} (he : EpAt w' w0.heap.size p' s') (hg : p'.g = p.g) (hw : p'.gw = p.gw) (hk : ∀ k, p'.blk k → p.blk k ∨ w.heap.size ≤ k) (ht : Tch p.blk w w') :
    PlD w0 w' g gw bx q kd nn p' s' (t + 1) LA RA MA lc rc mc := by
  have hxl := Blk.lt h.x
  have hql := h.d.lt
  refine ⟨⟨h.inv', he, h.c.far (ht.wide fun k hk => Or.inl hk) fun k hs => ?_, (ht.block bx hxl h.nx).trans h.x, fun e => ?_, h.bxb, hg.trans h.pg, hw.trans h.pw, h.b.trans (ht.below h.b.size h.e.base_le)⟩, (ht.block q hql h.nq).trans h.d, fun e => ?_, h.qx, h.qb⟩
  · rcases hs with hs | hs
    · exact (hk k hs).imp_left Or.inl
    · exact Or.inl (Or.inr hs)
  · rcases hk _ e with e | e
    · exact h.nx e
    · omega
  · rcases hk _ e with e | e
    · exact h.nq e
    · omega
theorem PlD.sub (h : PlD w0 w g gw bx q kd nn p s t LA RA MA lc rc mc) : ∀ k, plS p bx k → k < w.heap.size := by
  rintro k (hk | hk)
  · exact h.e.lt k hk
  · rw [hk]; exact Blk.lt h.x
end
set_option maxRecDepth 100000 in
set_option maxHeartbeats 16000000 in
theorem epochPlays_walk (n : Int) (A : Option Addr) (m c : Nat) (dl : List Int) (w : World) (hd : Rd2 w w.heap.size A m dl) (hm : m ≤ 4611686018427387904) :
    Calls Try.prog 3 #[.int .i64 n, .slice A m c] w fun e w' => e = .returned (.bool true) ∧ Below w.heap.size w w' := by
  by_cases h60 : 60 < m
  · have t1 : decide ((m : Int) > 60) = true := by simp; omega
    have hl := lives20 w
    clear hd h60
    go_enter Try.func3, Try.ntmps3
    go_wp2_with fail
    refine hl.mono ?_
    rintro e w' ⟨rfl, hb⟩
    go_wp2_with fail
    go_ret
    exact ⟨rfl, hb⟩
  · have t1 : decide ((m : Int) > 60) = false := by simp; omega
    by_cases hn : n < 1 ∨ 64 < n
    · go_enter Try.func3, Try.ntmps3
      go_wp2_with fail
      refine (ep_new_not n hn w).mono ?_
      rintro e w' ⟨rfl, rfl⟩
      go_wp2_with fail
      refine (r_new_not n hn w).mono ?_
      rintro e w1 ⟨rfl, hb1⟩
      unfold cV
      go_wp2_with fail
      refine (lives20 _).mono ?_
      rintro e w2 ⟨rfl, hb2⟩
      go_wp2_with fail
      go_ret
      refine ⟨rfl, ?_⟩
      have hb3 := hb1.alloc hb1.size (.cells #[.int .i64 0, .slice none 0 0, .slice none 0 0, .slice none 0 0, .int .i64 0] 31)
      exact hb3.trans (hb2.mono hb3.size)
    · obtain ⟨k, rfl⟩ : ∃ k : Nat, n = k := ⟨n.toNat, by omega⟩
      have hk1 : 1 ≤ k := by omega
      have hk2 : k ≤ 64 := by omega
      have hm60 : m ≤ 60 := by omega
      have HD := Lib.hid hd
      clear hd hn h60 hm
      go_enter Try.func3, Try.ntmps3
      go_wp2_with fail
      refine (ep_new k hk1 hk2 w).mono ?_
      rintro e w1 ⟨g, gw, rfl, hE1, hB1⟩
      have HE1 := Lib.hid hE1
      have HB1 := Lib.hid hB1
      clear hE1 hB1
      go_wp2_with fail
      refine (r_new k hk1 hk2 w1).mono ?_
      rintro e w2 ⟨⟨g1, g2, rfl, hg1, hg2, hr1, hr2⟩, hb2⟩
      unfold cV
      obtain ⟨w3, hw3⟩ : ∃ x, w2.alloc (.cells #[.int .i64 0, .slice (some ⟨g1, 0, none⟩) k k, .slice (some ⟨g2, 0, none⟩) k k, .slice none 0 0, .int .i64 0] 31) = x := ⟨_, rfl⟩
      have hb3 : Below w2.heap.size w2 w3 := by rw [← hw3]; exact (Below.refl _ _).alloc (Nat.le_refl _) _
      have hx3 : Blk w3 w2.heap.size 31 #[.int .i64 0, .slice (some ⟨g1, 0, none⟩) k k, .slice (some ⟨g2, 0, none⟩) k k, .slice none 0 0, .int .i64 0] := by rw [← hw3]; exact Blk.new _ _ _
      have hs1 : (⟨0, 0, List.replicate (k * 2) 0, []⟩ : EpS).n = k := by simp [EpS.n]
      have hlds : (⟨0, 0, List.replicate (k * 2) 0, []⟩ : EpS).lds = List.replicate k 0 := by
        apply ext_getD
        · simp [EpS.lds, hs1]
        · intro j hj
          simp [EpS.lds, hs1] at hj
          unfold EpS.lds
          rw [hs1, ig_map_range _ hj]
          simp [EpS.ld, ig, List.getD_eq_getElem?_getD, show j * 2 < k * 2 by omega, hj]
      have hrecs : (⟨0, 0, List.replicate (k * 2) 0, []⟩ : EpS).recs = List.replicate k 0 := by
        apply ext_getD
        · simp [EpS.recs, hs1]
        · intro j hj
          simp [EpS.recs, hs1] at hj
          unfold EpS.recs
          rw [hs1, ig_map_range _ hj]
          simp [EpS.rec_, ig, List.getD_eq_getElem?_getD, show j * 2 + 1 < k * 2 by omega, hj]
      have HP : Hid (PlAt w w3 g gw w2.heap.size ⟨g, gw, none, 0⟩ ⟨0, 0, List.replicate (k * 2) 0, []⟩ 0 (some ⟨g1, 0, none⟩) (some ⟨g2, 0, none⟩) none k k 0) := by
        have hE2 := HE1.out.below hb2
        have hE3 := hE2.below hb3
        have hlt := HE1.out.lt
        refine ⟨inv_new k hk1 hk2, hE3, ⟨?_, ?_, ?_, ?_, ?_, ?_, Or.inl ⟨by simp [EpS.k], rfl, rfl⟩⟩, ?_, fun q => ?_, ?_, rfl, rfl, (HB1.out.trans (hb2.mono HB1.out.size)).trans (hb3.mono (HB1.out.trans (hb2.mono HB1.out.size)).size)⟩
        · rw [hs1, hlds]; exact (hr1.below hb3).more hb3.size
        · refine Off.fresh fun q => ?_
          obtain ⟨b, o, e, hb, _⟩ := hr1.2 (by omega)
          injection e with e
          injection e with e _ _
          subst e
          rcases q with q | q
          · have := hlt _ q; omega
          · omega
        · rw [hs1, hrecs]; exact (hr2.below hb3).more hb3.size
        · refine Off.fresh fun q => ?_
          obtain ⟨b, o, e, hb, _⟩ := hr2.2 (by omega)
          injection e with e
          injection e with e _ _
          subst e
          rcases q with q | q
          · have := hlt _ q; omega
          · omega
        · exact ⟨by simp [EpS.k], fun h => absurd h (by simp [EpS.k])⟩
        · exact fun h => absurd h (by simp [EpS.k])
        · have hks : (⟨0, 0, List.replicate (k * 2) 0, []⟩ : EpS).k = 0 := by simp [EpS.k]
          unfold Bx; rw [hs1, hks]; exact hx3
        · have := hlt _ q; have := hb2.size; omega
        · exact (HB1.out.trans (hb2.mono HB1.out.size)).size
      have HW3 := Lib.hid hw3
      clear hw3 HE1 HB1 hg1 hg2 hr1 hr2 hb2 hb3 hx3 hs1 hlds hrecs
      go_wp2_with fail
      rw [HW3.out]
      obtain ⟨bx, hbx⟩ : ∃ x, w2.heap.size = x := ⟨_, rfl⟩
      rw [hbx] at HP ⊢
      clear HW3 hbx
      go_loopw [54] (fun i wx => ∃ (j : Nat) (p : EpP) (s : EpS) (LA RA MA : Option Addr) (lc rc mc : Nat), j ≤ m ∧ i = .int .i64 j ∧ Hid (PlAt w wx g gw bx p s j LA RA MA lc rc mc)) (fun i _ => m - (intOf i).toNat)
      case atStart => exact ⟨0, _, _, _, _, _, _, _, _, Nat.zero_le _, rfl, HP⟩
      case round =>
        clear HP
        obtain ⟨j, p, s, LA, RA, MA, lc, rc, mc, hj, rfl, H⟩ := hrel
        by_cases hlt : j < m
        · obtain ⟨b', o, rfl, hbl, hc1, hc2⟩ := HD.out.at_ hlt
          obtain ⟨kd, hkd⟩ : ∃ y, ig dl (j * 2) = y := ⟨_, rfl⟩
          obtain ⟨nn, hnn⟩ : ∃ z, ig dl (j * 2 + 1) = z := ⟨_, rfl⟩
          rw [hkd] at hc1
          rw [hnn] at hc2
          have hd1 := (H.out.b.cell (p := ⟨b', o + j * 2, none⟩) hbl).trans hc1
          have hd2 := (H.out.b.cell (p := ⟨b', o + j * 2 + 1, none⟩) hbl).trans hc2
          clear hkd hnn hc1 hc2 hbl
          go_upto_region 12 with fail
          have HA := H.out.deed kd nn
          obtain ⟨wA, hwA⟩ : ∃ x, wr.alloc (.cells #[.int .i64 kd, .int .i64 nn] 35) = x := ⟨_, rfl⟩
          obtain ⟨q, hq⟩ : ∃ x, wr.heap.size = x := ⟨_, rfl⟩
          rw [hwA, hq] at HA
          rw [hwA, hq]
          replace HA := Lib.hid HA
          clear hwA hq hd1 hd2 H HD
          obtain ⟨⟨d0, d1⟩, ⟨x0, x1, x2, x3, x4⟩, xf⟩ := HA.out.facts
          go_upto_block 2 with fail
          go_cut [11] from 55 to 181 (fun s11 wx => s11 = .bool true ∧ ∃ (p' : EpP) (s' : EpS) (LA' RA' MA' : Option Addr) (lc' rc' mc' : Nat), Hid (PlD w wx g gw bx q kd nn p' s' (j + 1) LA' RA' MA' lc' rc' mc'))
          case first =>
            by_cases k0 : kd = 0
            · have t0 : (kd == 0) = true := by simp [k0]
              clear k0
              go_wp2_with fail
              refine (c_load HA.out.c HA.out.sub HA.out.inv.n2 lc rc nn).mono ?_
              rintro en w1 ⟨LA', lc', RA', rc', MA', mc', rfl, hc1, hb1⟩
              have HM := HA.out.mid hc1 hb1 ((inv_load HA.out.inv nn).mono (Nat.le_succ j)) lc' rc' #[.int .i64 (s.loadS nn).ep, .slice LA' (s.loadS nn).n lc', .slice RA' (s.loadS nn).n rc', .slice MA' (s.loadS nn).k mc', .int .i64 (s.loadS nn).at_]
              have H1 := HA.out.below hb1
              obtain ⟨s', hs'⟩ : ∃ x, s.loadS nn = x := ⟨_, rfl⟩
              have HP := fun (W : World) (h : EpAt W w.heap.size p s) => p_load h nn
              rw [hs'] at HM ⊢ HP
              replace HP := Lib.hid HP
              clear hs' d0 d1 x0 x1 x2 x3 x4 xf hc1 hb1 HA
              have H2 := H1.below ((Below.refl _ w1).alloc (Nat.le_refl _) (.cells #[.int .i64 s'.ep, .slice LA' s'.n lc', .slice RA' s'.n rc', .slice MA' s'.k mc', .int .i64 s'.at_] 31))
              have y := Blk.new w1 31 #[.int .i64 s'.ep, .slice LA' s'.n lc', .slice RA' s'.n rc', .slice MA' s'.k mc', .int .i64 s'.at_]
              have y0 := y.cell 0
              have y1 := y.cell 1
              have y2 := y.cell 2
              have y3 := y.cell 3
              have y4 := y.cell 4
              obtain ⟨_, ⟨x0, x1, x2, x3, x4⟩, xf⟩ := H2.facts
              replace HM := Lib.hid HM
              clear y H1 H2
              unfold cV
              go_upto_region 20 with fail
              change Code.wp _ _ _ _ (put5 (w1.alloc (.cells #[.int .i64 s'.ep, .slice LA' s'.n lc', .slice RA' s'.n rc', .slice MA' s'.k mc', .int .i64 s'.at_] 31)) bx (.int .i64 s'.ep) (.slice LA' s'.n lc') (.slice RA' s'.n rc') (.slice MA' s'.k mc') (.int .i64 s'.at_))
              obtain ⟨w4, hw4⟩ : ∃ x, (put5 (w1.alloc (.cells #[.int .i64 s'.ep, .slice LA' s'.n lc', .slice RA' s'.n rc', .slice MA' s'.k mc', .int .i64 s'.at_] 31)) bx (.int .i64 s'.ep) (.slice LA' s'.n lc') (.slice RA' s'.n rc') (.slice MA' s'.k mc') (.int .i64 s'.at_)) = x := ⟨_, rfl⟩
              rw [hw4] at HM ⊢
              obtain ⟨d0, d1⟩ := HM.out.facts
              have hPG := HM.out.pg
              clear hw4 y0 y1 y2 y3 y4 x0 x1 x2 x3 x4 xf
              go_wp2_with fail
              refine (hPG ▸ HP.out w4 HM.out.e).mono ?_
              rintro en wZ ⟨rfl, he, ht⟩
              have HQ := HM.out.prog he rfl rfl (fun k hk => Or.inl hk) ht
              obtain ⟨p', hp'⟩ : ∃ x, p = x := ⟨_, rfl⟩
              rw [hp'] at HQ
              replace hPG := HQ.pg
              replace HQ := Lib.hid HQ
              clear hp' HM HP d0 d1 he ht
              go_wp2_with fail
              go_meet
              case rel => exact ⟨rfl, p', s', LA', RA', MA', lc', rc', mc', HQ⟩
            have t0 : (kd == 0) = false := beq_false_of_ne k0
            clear k0
            by_cases k1 : kd = 1
            · have t1 : (kd == 1) = true := by simp [k1]
              clear k1
              go_wp2_with fail
              refine (c_pin HA.out.c HA.out.sub HA.out.inv.n2 (fun i hi => ⟨(HA.out.inv.ld i hi).1, by have := (HA.out.inv.ld i hi).2; omega⟩) lc rc nn).mono ?_
              rintro en w1 ⟨LA', lc', RA', rc', MA', mc', rfl, hc1, hb1⟩
              have HM := HA.out.mid hc1 hb1 ((inv_pin HA.out.inv nn).mono (Nat.le_succ j)) lc' rc' #[.int .i64 (s.pinS nn).ep, .slice LA' (s.pinS nn).n lc', .slice RA' (s.pinS nn).n rc', .slice MA' (s.pinS nn).k mc', .int .i64 (s.pinS nn).at_]
              have H1 := HA.out.below hb1
              obtain ⟨s', hs'⟩ : ∃ x, s.pinS nn = x := ⟨_, rfl⟩
              have HP := fun (W : World) (h : EpAt W w.heap.size p s) => p_pin h (fun i hi => ⟨(HA.out.inv.ld i hi).1, by have := (HA.out.inv.ld i hi).2; omega⟩) nn
              rw [hs'] at HM ⊢ HP
              replace HP := Lib.hid HP
              clear hs' d0 d1 x0 x1 x2 x3 x4 xf hc1 hb1 HA
              have H2 := H1.below ((Below.refl _ w1).alloc (Nat.le_refl _) (.cells #[.int .i64 s'.ep, .slice LA' s'.n lc', .slice RA' s'.n rc', .slice MA' s'.k mc', .int .i64 s'.at_] 31))
              have y := Blk.new w1 31 #[.int .i64 s'.ep, .slice LA' s'.n lc', .slice RA' s'.n rc', .slice MA' s'.k mc', .int .i64 s'.at_]
              have y0 := y.cell 0
              have y1 := y.cell 1
              have y2 := y.cell 2
              have y3 := y.cell 3
              have y4 := y.cell 4
              obtain ⟨_, ⟨x0, x1, x2, x3, x4⟩, xf⟩ := H2.facts
              replace HM := Lib.hid HM
              clear y H1 H2
              unfold cV
              go_upto_region 24 with fail
              change Code.wp _ _ _ _ (put5 (w1.alloc (.cells #[.int .i64 s'.ep, .slice LA' s'.n lc', .slice RA' s'.n rc', .slice MA' s'.k mc', .int .i64 s'.at_] 31)) bx (.int .i64 s'.ep) (.slice LA' s'.n lc') (.slice RA' s'.n rc') (.slice MA' s'.k mc') (.int .i64 s'.at_))
              obtain ⟨w4, hw4⟩ : ∃ x, (put5 (w1.alloc (.cells #[.int .i64 s'.ep, .slice LA' s'.n lc', .slice RA' s'.n rc', .slice MA' s'.k mc', .int .i64 s'.at_] 31)) bx (.int .i64 s'.ep) (.slice LA' s'.n lc') (.slice RA' s'.n rc') (.slice MA' s'.k mc') (.int .i64 s'.at_)) = x := ⟨_, rfl⟩
              rw [hw4] at HM ⊢
              obtain ⟨d0, d1⟩ := HM.out.facts
              have hPG := HM.out.pg
              clear hw4 y0 y1 y2 y3 y4 x0 x1 x2 x3 x4 xf
              go_wp2_with fail
              refine (hPG ▸ HP.out w4 HM.out.e).mono ?_
              rintro en wZ ⟨rfl, he, ht⟩
              have HQ := HM.out.prog he rfl rfl (fun k hk => Or.inl hk) ht
              obtain ⟨p', hp'⟩ : ∃ x, p = x := ⟨_, rfl⟩
              rw [hp'] at HQ
              replace hPG := HQ.pg
              replace HQ := Lib.hid HQ
              clear hp' HM HP d0 d1 he ht
              go_wp2_with fail
              go_meet
              case rel => exact ⟨rfl, p', s', LA', RA', MA', lc', rc', mc', HQ⟩
            have t1 : (kd == 1) = false := beq_false_of_ne k1
            clear k1
            by_cases k2 : kd = 2
            · have t2 : (kd == 2) = true := by simp [k2]
              clear k2
              go_wp2_with fail
              refine (c_unp HA.out.c HA.out.sub HA.out.inv.n2 lc rc nn).mono ?_
              rintro en w1 ⟨LA', lc', RA', rc', MA', mc', rfl, hc1, hb1⟩
              have HM := HA.out.mid hc1 hb1 ((inv_unp HA.out.inv nn).mono (Nat.le_succ j)) lc' rc' #[.int .i64 (s.unpS nn).ep, .slice LA' (s.unpS nn).n lc', .slice RA' (s.unpS nn).n rc', .slice MA' (s.unpS nn).k mc', .int .i64 (s.unpS nn).at_]
              have H1 := HA.out.below hb1
              obtain ⟨s', hs'⟩ : ∃ x, s.unpS nn = x := ⟨_, rfl⟩
              have HP := fun (W : World) (h : EpAt W w.heap.size p s) => p_unp h nn
              rw [hs'] at HM ⊢ HP
              replace HP := Lib.hid HP
              clear hs' d0 d1 x0 x1 x2 x3 x4 xf hc1 hb1 HA
              have H2 := H1.below ((Below.refl _ w1).alloc (Nat.le_refl _) (.cells #[.int .i64 s'.ep, .slice LA' s'.n lc', .slice RA' s'.n rc', .slice MA' s'.k mc', .int .i64 s'.at_] 31))
              have y := Blk.new w1 31 #[.int .i64 s'.ep, .slice LA' s'.n lc', .slice RA' s'.n rc', .slice MA' s'.k mc', .int .i64 s'.at_]
              have y0 := y.cell 0
              have y1 := y.cell 1
              have y2 := y.cell 2
              have y3 := y.cell 3
              have y4 := y.cell 4
              obtain ⟨_, ⟨x0, x1, x2, x3, x4⟩, xf⟩ := H2.facts
              replace HM := Lib.hid HM
              clear y H1 H2
              unfold cV
              go_upto_region 28 with fail
              change Code.wp _ _ _ _ (put5 (w1.alloc (.cells #[.int .i64 s'.ep, .slice LA' s'.n lc', .slice RA' s'.n rc', .slice MA' s'.k mc', .int .i64 s'.at_] 31)) bx (.int .i64 s'.ep) (.slice LA' s'.n lc') (.slice RA' s'.n rc') (.slice MA' s'.k mc') (.int .i64 s'.at_))
              obtain ⟨w4, hw4⟩ : ∃ x, (put5 (w1.alloc (.cells #[.int .i64 s'.ep, .slice LA' s'.n lc', .slice RA' s'.n rc', .slice MA' s'.k mc', .int .i64 s'.at_] 31)) bx (.int .i64 s'.ep) (.slice LA' s'.n lc') (.slice RA' s'.n rc') (.slice MA' s'.k mc') (.int .i64 s'.at_)) = x := ⟨_, rfl⟩
              rw [hw4] at HM ⊢
              obtain ⟨d0, d1⟩ := HM.out.facts
              have hPG := HM.out.pg
              clear hw4 y0 y1 y2 y3 y4 x0 x1 x2 x3 x4 xf
              go_wp2_with fail
              refine (hPG ▸ HP.out w4 HM.out.e).mono ?_
              rintro en wZ ⟨rfl, he, ht⟩
              have HQ := HM.out.prog he rfl rfl (fun k hk => Or.inl hk) ht
              obtain ⟨p', hp'⟩ : ∃ x, p = x := ⟨_, rfl⟩
              rw [hp'] at HQ
              replace hPG := HQ.pg
              replace HQ := Lib.hid HQ
              clear hp' HM HP d0 d1 he ht
              go_wp2_with fail
              go_meet
              case rel => exact ⟨rfl, p', s', LA', RA', MA', lc', rc', mc', HQ⟩
            have t2 : (kd == 2) = false := beq_false_of_ne k2
            clear k2
            by_cases k3 : kd = 3
            · have t3 : (kd == 3) = true := by simp [k3]
              clear k3
              go_wp2_with fail
              refine (c_ret HA.out.c HA.out.sub (by have := HA.out.inv.k; omega) lc rc nn).mono ?_
              rintro en w1 ⟨LA', lc', RA', rc', MA', mc', rfl, hc1, hb1⟩
              have HM := HA.out.mid hc1 hb1 (inv_ret HA.out.inv nn) lc' rc' #[.int .i64 (s.retS nn).ep, .slice LA' (s.retS nn).n lc', .slice RA' (s.retS nn).n rc', .slice MA' (s.retS nn).k mc', .int .i64 (s.retS nn).at_]
              have H1 := HA.out.below hb1
              have hb := HA.out.b.size
              obtain ⟨s', hs'⟩ : ∃ x, s.retS nn = x := ⟨_, rfl⟩
              have HP := fun (W : World) (hb : w.heap.size ≤ W.heap.size) (h : EpAt W w.heap.size p s) => p_ret h hb (by have := HA.out.inv.k; omega) nn
              rw [hs'] at HM ⊢ HP
              replace HP := Lib.hid HP
              clear hs' d0 d1 x0 x1 x2 x3 x4 xf hc1 hb1 HA
              have H2 := H1.below ((Below.refl _ w1).alloc (Nat.le_refl _) (.cells #[.int .i64 s'.ep, .slice LA' s'.n lc', .slice RA' s'.n rc', .slice MA' s'.k mc', .int .i64 s'.at_] 31))
              have y := Blk.new w1 31 #[.int .i64 s'.ep, .slice LA' s'.n lc', .slice RA' s'.n rc', .slice MA' s'.k mc', .int .i64 s'.at_]
              have y0 := y.cell 0
              have y1 := y.cell 1
              have y2 := y.cell 2
              have y3 := y.cell 3
              have y4 := y.cell 4
              obtain ⟨_, ⟨x0, x1, x2, x3, x4⟩, xf⟩ := H2.facts
              replace HM := Lib.hid HM
              clear y H1 H2 hb
              unfold cV
              go_upto_region 32 with fail
              change Code.wp _ _ _ _ (put5 (w1.alloc (.cells #[.int .i64 s'.ep, .slice LA' s'.n lc', .slice RA' s'.n rc', .slice MA' s'.k mc', .int .i64 s'.at_] 31)) bx (.int .i64 s'.ep) (.slice LA' s'.n lc') (.slice RA' s'.n rc') (.slice MA' s'.k mc') (.int .i64 s'.at_))
              obtain ⟨w4, hw4⟩ : ∃ x, (put5 (w1.alloc (.cells #[.int .i64 s'.ep, .slice LA' s'.n lc', .slice RA' s'.n rc', .slice MA' s'.k mc', .int .i64 s'.at_] 31)) bx (.int .i64 s'.ep) (.slice LA' s'.n lc') (.slice RA' s'.n rc') (.slice MA' s'.k mc') (.int .i64 s'.at_)) = x := ⟨_, rfl⟩
              rw [hw4] at HM ⊢
              obtain ⟨d0, d1⟩ := HM.out.facts
              have hPG := HM.out.pg
              clear hw4 y0 y1 y2 y3 y4 x0 x1 x2 x3 x4 xf
              go_wp2_with fail
              refine (hPG ▸ HP.out w4 HM.out.b.size HM.out.e).mono ?_
              rintro en wZ ⟨rfl, B, d, he, hblk, ht⟩
              have HQ := HM.out.prog he hPG.symm rfl hblk ht
              obtain ⟨p', hp'⟩ : ∃ x, ({ g := g, gw := p.gw, B := B, d := d } : EpP) = x := ⟨_, rfl⟩
              rw [hp'] at HQ
              replace hPG := HQ.pg
              replace HQ := Lib.hid HQ
              clear hp' HM HP d0 d1 he ht hblk
              go_wp2_with fail
              go_meet
              case rel => exact ⟨rfl, p', s', LA', RA', MA', lc', rc', mc', HQ⟩
            have t3 : (kd == 3) = false := beq_false_of_ne k3
            clear k3
            by_cases k4 : kd = 4
            · have t4 : (kd == 4) = true := by simp [k4]
              clear k4
              go_wp2_with fail
              refine (c_look HA.out.c HA.out.inv.at_ HA.out.inv.n2 (by have := HA.out.inv.ep; omega) lc rc).mono ?_
              rintro en w1 ⟨LA', lc', RA', rc', MA', mc', rfl, hc1, hb1⟩
              have HM := HA.out.mid hc1 hb1 (inv_look HA.out.inv) lc' rc' #[.int .i64 s.look.ep, .slice LA' s.look.n lc', .slice RA' s.look.n rc', .slice MA' s.look.k mc', .int .i64 s.look.at_]
              have H1 := HA.out.below hb1
              obtain ⟨s', hs'⟩ : ∃ x, s.look = x := ⟨_, rfl⟩
              have HP := fun (W : World) (h : EpAt W w.heap.size p s) => ep_look p s w.heap.size W h HA.out.inv.at_ (by have := HA.out.inv.ep; omega) HA.out.inv.n2
              rw [hs'] at HM ⊢ HP
              replace HP := Lib.hid HP
              clear hs' d0 d1 x0 x1 x2 x3 x4 xf hc1 hb1 HA
              have H2 := H1.below ((Below.refl _ w1).alloc (Nat.le_refl _) (.cells #[.int .i64 s'.ep, .slice LA' s'.n lc', .slice RA' s'.n rc', .slice MA' s'.k mc', .int .i64 s'.at_] 31))
              have y := Blk.new w1 31 #[.int .i64 s'.ep, .slice LA' s'.n lc', .slice RA' s'.n rc', .slice MA' s'.k mc', .int .i64 s'.at_]
              have y0 := y.cell 0
              have y1 := y.cell 1
              have y2 := y.cell 2
              have y3 := y.cell 3
              have y4 := y.cell 4
              obtain ⟨_, ⟨x0, x1, x2, x3, x4⟩, xf⟩ := H2.facts
              replace HM := Lib.hid HM
              clear y H1 H2
              unfold cV
              go_upto_region 36 with fail
              change Code.wp _ _ _ _ (put5 (w1.alloc (.cells #[.int .i64 s'.ep, .slice LA' s'.n lc', .slice RA' s'.n rc', .slice MA' s'.k mc', .int .i64 s'.at_] 31)) bx (.int .i64 s'.ep) (.slice LA' s'.n lc') (.slice RA' s'.n rc') (.slice MA' s'.k mc') (.int .i64 s'.at_))
              obtain ⟨w4, hw4⟩ : ∃ x, (put5 (w1.alloc (.cells #[.int .i64 s'.ep, .slice LA' s'.n lc', .slice RA' s'.n rc', .slice MA' s'.k mc', .int .i64 s'.at_] 31)) bx (.int .i64 s'.ep) (.slice LA' s'.n lc') (.slice RA' s'.n rc') (.slice MA' s'.k mc') (.int .i64 s'.at_)) = x := ⟨_, rfl⟩
              rw [hw4] at HM ⊢
              obtain ⟨d0, d1⟩ := HM.out.facts
              have hPG := HM.out.pg
              clear hw4 y0 y1 y2 y3 y4 x0 x1 x2 x3 x4 xf
              go_wp2_with fail
              refine (hPG ▸ HP.out w4 HM.out.e).mono ?_
              rintro en wZ ⟨rfl, he, ht⟩
              have HQ := HM.out.prog he rfl rfl (fun k hk => Or.inl hk) ht
              obtain ⟨p', hp'⟩ : ∃ x, p = x := ⟨_, rfl⟩
              rw [hp'] at HQ
              replace hPG := HQ.pg
              replace HQ := Lib.hid HQ
              clear hp' HM HP d0 d1 he ht
              go_wp2_with fail
              go_meet
              case rel => exact ⟨rfl, p', s', LA', RA', MA', lc', rc', mc', HQ⟩
            have t4 : (kd == 4) = false := beq_false_of_ne k4
            clear k4
            go_wp2_with fail
            refine (c_free HA.out.c HA.out.sub (by have := HA.out.inv.k; omega) (fun i hi => ⟨(HA.out.inv.gen i hi).1, by have := (HA.out.inv.gen i hi).2; omega⟩) lc rc).mono ?_
            rintro en w1 ⟨LA', lc', RA', rc', MA', mc', A, n1, c1, rfl, hA, hAo, hc1, hb1⟩
            have HM := HA.out.mid hc1 hb1 ((inv_free HA.out.inv).mono (Nat.le_succ j)) lc' rc' #[.int .i64 s.freeS.ep, .slice LA' s.freeS.n lc', .slice RA' s.freeS.n rc', .slice MA' s.freeS.k mc', .int .i64 s.freeS.at_]
            have H1 := HA.out.below hb1
            obtain ⟨s', hs'⟩ : ∃ x, s.freeS = x := ⟨_, rfl⟩
            have HP := fun (W : World) (h : EpAt W w.heap.size p s) => ep_free p s w.heap.size W h (by have := HA.out.inv.k; omega) (by have := HA.out.inv.ep; omega)
            have hs2 : ({ s with fl := keptN s.fl s.ep s.k } : EpS) = s' := hs'
            rw [hs2] at HP
            have HA2 := Lib.hid (((hA.below ((Below.refl w1.heap.size w1).alloc (Nat.le_refl _) (.cells #[.int .i64 s.freeS.ep, .slice LA' s.freeS.n lc', .slice RA' s.freeS.n rc', .slice MA' s.freeS.k mc', .int .i64 s.freeS.at_] 31))).more ((Below.refl w1.heap.size w1).alloc (Nat.le_refl _) (.cells #[.int .i64 s.freeS.ep, .slice LA' s.freeS.n lc', .slice RA' s.freeS.n rc', .slice MA' s.freeS.k mc', .int .i64 s.freeS.at_] 31)).size).far (S := plS p bx) hAo ((put5_tch _ bx (.int .i64 s.freeS.ep) (.slice LA' s.freeS.n lc') (.slice RA' s.freeS.n rc') (.slice MA' s.freeS.k mc') (.int .i64 s.freeS.at_)).wide fun k hk => Or.inr hk))
            have HAO := Lib.hid hAo
            have hol : (outN s.fl s.ep s.k).length ≤ 1000 := by have := outN_len s.fl s.ep s.k; have := HA.out.inv.k; omega
            obtain ⟨outs, hou⟩ : ∃ x, outN s.fl s.ep s.k = x := ⟨_, rfl⟩
            rw [hou] at HA2 HP hol
            rw [hs'] at HM ⊢ HA2
            replace HP := Lib.hid HP
            clear hs' d0 d1 x0 x1 x2 x3 x4 xf hc1 hb1 HA hs2 hou hA hAo
            have H2 := H1.below ((Below.refl _ w1).alloc (Nat.le_refl _) (.cells #[.int .i64 s'.ep, .slice LA' s'.n lc', .slice RA' s'.n rc', .slice MA' s'.k mc', .int .i64 s'.at_] 31))
            have y := Blk.new w1 31 #[.int .i64 s'.ep, .slice LA' s'.n lc', .slice RA' s'.n rc', .slice MA' s'.k mc', .int .i64 s'.at_]
            have y0 := y.cell 0
            have y1 := y.cell 1
            have y2 := y.cell 2
            have y3 := y.cell 3
            have y4 := y.cell 4
            obtain ⟨_, ⟨x0, x1, x2, x3, x4⟩, xf⟩ := H2.facts
            replace HM := Lib.hid HM
            clear y H1 H2
            unfold cV
            go_upto_region 16 with fail
            change Code.wp _ _ _ _ (put5 (w1.alloc (.cells #[.int .i64 s'.ep, .slice LA' s'.n lc', .slice RA' s'.n rc', .slice MA' s'.k mc', .int .i64 s'.at_] 31)) bx (.int .i64 s'.ep) (.slice LA' s'.n lc') (.slice RA' s'.n rc') (.slice MA' s'.k mc') (.int .i64 s'.at_))
            obtain ⟨w4, hw4⟩ : ∃ x, (put5 (w1.alloc (.cells #[.int .i64 s'.ep, .slice LA' s'.n lc', .slice RA' s'.n rc', .slice MA' s'.k mc', .int .i64 s'.at_] 31)) bx (.int .i64 s'.ep) (.slice LA' s'.n lc') (.slice RA' s'.n rc') (.slice MA' s'.k mc') (.int .i64 s'.at_)) = x := ⟨_, rfl⟩
            rw [hw4] at HM HA2 ⊢
            obtain ⟨d0, d1⟩ := HM.out.facts
            have hPG := HM.out.pg
            clear hw4 y0 y1 y2 y3 y4 x0 x1 x2 x3 x4 xf
            go_wp2_with fail
            refine (hPG ▸ HP.out w4 HM.out.e).mono ?_
            rintro en w5 ⟨⟨O, n2, c2, rfl, ho⟩, he, ht⟩
            have HQ := HM.out.prog he rfl rfl (fun k hk => Or.inl hk) ht
            have r2 := Rd.of_own ho
            have r1 := HA2.out.far HAO.out (ht.wide fun k hk => Or.inl hk)
            have l1 := r1.lenI
            have l2 := r2.lenI
            obtain ⟨p', hp'⟩ : ∃ x, p = x := ⟨_, rfl⟩
            rw [hp'] at HQ
            clear d0 d1 ho he ht HA2 HAO
            go_wp2_with fail
            refine (same_ints O A n2 n1 c2 c1 w5.heap.size outs outs w5 r2 r1 (by omega) (by omega)).mono ?_
            rw [show sameB outs outs = true from decide_eq_true rfl]
            rintro en wZ ⟨rfl, qz, rfl⟩
            replace HQ := HQ.drewN qz
            obtain ⟨wZ, hwZ⟩ : ∃ x, w5.drewN qz = x := ⟨_, rfl⟩
            rw [hwZ] at HQ ⊢
            clear hwZ r1 r2 l1 l2
            replace hPG := HQ.pg
            replace HQ := Lib.hid HQ
            clear hp' HM HP
            go_wp2_with fail
            go_meet
            case rel => exact ⟨rfl, p', s', LA', RA', MA', lc', rc', mc', HQ⟩
          case rest =>
            obtain ⟨rfl, p', s', LA', RA', MA', lc', rc', mc', HQ⟩ := hcut
            obtain ⟨wZ, hwZ⟩ : ∃ x, wc = x := ⟨_, rfl⟩
            rw [hwZ] at HQ ⊢
            have hPG := HQ.out.pg
            clear hwZ HA d0 d1 x0 x1 x2 x3 x4 xf
            obtain ⟨⟨d0, d1⟩, ⟨x0, x1, x2, x3, x4⟩, xf⟩ := HQ.out.facts
            have hHas := r_has s'.ep s'.at_ (.slice LA' s'.n lc') (.slice MA' s'.k mc') RA' s'.n rc' nn wZ
            have tE : ((s'.ep : Int) != (s'.ep : Int)) = false := by simp
            cases hh : s'.has nn with
            | false =>
              have hrv : s'.recV nn = 0 := by unfold EpS.recV; rw [hh]; rfl
              rw [show (decide (0 ≤ nn) && decide (nn < s'.n)) = false from hh] at hHas
              have hRec := fun W (h : EpAt W w.heap.size p' s') => p_rec h nn
              rw [hrv] at hRec
              replace hRec := Lib.hid hRec
              clear hh hrv
              go_wp2_with fail
              refine hHas.mono ?_
              rintro en w5 ⟨rfl, hb5⟩
              have H5 := HQ.out.below hb5
              clear d0 d1 x0 x1 x2 x3 x4 xf
              obtain ⟨⟨d0, d1⟩, ⟨x0, x1, x2, x3, x4⟩, xf⟩ := H5.facts
              obtain ⟨⟨e0, e1⟩, ⟨z0, z1, z2, z3, z4⟩, zf⟩ := (H5.drewN 1).facts
              have hE5 := Lib.hid (H5.drewN 1)
              have e1' : w5.drew.cell? ⟨q, 1, none⟩ = some (.int .i64 nn) := e1
              have z0' : w5.drew.cell? ⟨bx, 0, none⟩ = some (.int .i64 s'.ep) := z0
              have z3' : w5.drew.cell? ⟨bx, 3, none⟩ = some (.slice MA' s'.k mc') := z3
              clear hHas hb5 e0 e1 z0 z1 z2 z3 z4 zf H5
              go_upto_region 40 with fail
              go_cut [180] from 157 to 180 (fun s180 wx => s180 = .bool false ∧ Hid (PlAt w wx g gw bx p' s' (j + 1) LA' RA' MA' lc' rc' mc'))
              case first =>
                go_region_law (first
                  | (go_simp; go_at_call 22; refine (hPG ▸ ep_epoch p' s' w.heap.size w5.drew hE5.out.e).mono ?_; rintro en w' ⟨rfl, rfl⟩)
                  | (go_simp; go_at_call 23; refine (hPG ▸ hRec.out w5.drew hE5.out.e).mono ?_; rintro en w' ⟨rfl, rfl⟩)
                  | (go_simp; go_at_call 25; refine (hPG ▸ ep_limbo p' s' w.heap.size w5.drew hE5.out.e (by have := hE5.out.inv.k; omega)).mono ?_; rintro en w6 ⟨⟨A6, c6, rfl, hr6⟩, hb6⟩; have H6 := hE5.out.below hb6; have z36 := Blk.cell H6.x 3; replace H6 := Lib.hid H6; replace hr6 := Lib.hid hr6; clear hb6)
                  | (go_simp; go_at_call 24; refine (r_same A6 MA' s'.k s'.k c6 mc' s'.fl s'.fl w6 hr6.out H6.out.c.m (by have := H6.out.inv.k; omega)).mono ?_; rw [show same2 s'.fl s'.fl = true from decide_eq_true rfl]; rintro en w' ⟨rfl, qq, rfl⟩))
                all_goals (go_wp2_with fail; go_meet; exact ⟨rfl, (H6.out.drewN qq).toPlAt⟩)
              case rest =>
                obtain ⟨rfl, HE⟩ := hcut
                clear hE5 hRec e1' z0' z3' d0 d1 x0 x1 x2 x3 x4 xf HQ
                go_wp2_with fail
                go_roundw
                case rel => exact ⟨j + 1, p', s', _, _, _, lc', rc', mc', hlt, by go_num, HE⟩
                case measure => simp [intOf]; omega
            | true =>
              have hrv : s'.recV nn = s'.rec_ nn.toNat := by unfold EpS.recV; rw [hh]; rfl
              rw [show (decide (0 ≤ nn) && decide (nn < s'.n)) = true from hh] at hHas
              obtain ⟨i, rfl, hi⟩ := has_true hh
              rw [Int.toNat_natCast] at hrv
              have hri : ig s'.recs i = s'.rec_ i := by unfold EpS.recs; rw [ig_map_range _ hi]
              obtain ⟨rb, ro, rfl, hrb, hrc⟩ := HQ.out.c.r.atI hi
              rw [hri] at hrc
              have hRec := fun W (h : EpAt W w.heap.size p' s') => p_rec h i
              rw [hrv] at hRec
              replace hRec := Lib.hid hRec
              obtain ⟨rv, hrvv⟩ : ∃ x, s'.rec_ i = x := ⟨_, rfl⟩
              rw [hrvv] at hRec hrc
              have tR : (rv != rv) = false := by simp
              clear hrvv hri
              clear hh hrv
              go_wp2_with fail
              refine hHas.mono ?_
              rintro en w5 ⟨rfl, hb5⟩
              have H5 := HQ.out.below hb5
              have hrc5 := (hb5.cell (p := ⟨rb, ro + i, none⟩) hrb).trans hrc
              clear d0 d1 x0 x1 x2 x3 x4 xf
              obtain ⟨⟨d0, d1⟩, ⟨x0, x1, x2, x3, x4⟩, xf⟩ := H5.facts
              obtain ⟨⟨e0, e1⟩, ⟨z0, z1, z2, z3, z4⟩, zf⟩ := (H5.drewN 1).facts
              have hE5 := Lib.hid (H5.drewN 1)
              have e1' : w5.drew.cell? ⟨q, 1, none⟩ = some (.int .i64 i) := e1
              have z0' : w5.drew.cell? ⟨bx, 0, none⟩ = some (.int .i64 s'.ep) := z0
              have z3' : w5.drew.cell? ⟨bx, 3, none⟩ = some (.slice MA' s'.k mc') := z3
              clear hHas hb5 e0 e1 z0 z1 z2 z3 z4 zf H5 hrc hrb
              go_upto_region 40 with fail
              go_cut [180] from 157 to 180 (fun s180 wx => s180 = .bool false ∧ Hid (PlAt w wx g gw bx p' s' (j + 1) LA' (some ⟨rb, ro, none⟩) MA' lc' rc' mc'))
              case first =>
                go_region_law (first
                  | (go_simp; go_at_call 22; refine (hPG ▸ ep_epoch p' s' w.heap.size w5.drew hE5.out.e).mono ?_; rintro en w' ⟨rfl, rfl⟩)
                  | (go_simp; go_at_call 23; refine (hPG ▸ hRec.out w5.drew hE5.out.e).mono ?_; rintro en w' ⟨rfl, rfl⟩)
                  | (go_simp; go_at_call 25; refine (hPG ▸ ep_limbo p' s' w.heap.size w5.drew hE5.out.e (by have := hE5.out.inv.k; omega)).mono ?_; rintro en w6 ⟨⟨A6, c6, rfl, hr6⟩, hb6⟩; have H6 := hE5.out.below hb6; have z36 := Blk.cell H6.x 3; replace H6 := Lib.hid H6; replace hr6 := Lib.hid hr6; clear hb6)
                  | (go_simp; go_at_call 24; refine (r_same A6 MA' s'.k s'.k c6 mc' s'.fl s'.fl w6 hr6.out H6.out.c.m (by have := H6.out.inv.k; omega)).mono ?_; rw [show same2 s'.fl s'.fl = true from decide_eq_true rfl]; rintro en w' ⟨rfl, qq, rfl⟩))
                all_goals (go_wp2_with fail; go_meet; exact ⟨rfl, (H6.out.drewN qq).toPlAt⟩)
              case rest =>
                obtain ⟨rfl, HE⟩ := hcut
                clear hE5 hRec hrc5 e1' z0' z3' d0 d1 x0 x1 x2 x3 x4 xf HQ
                go_wp2_with fail
                go_roundw
                case rel => exact ⟨j + 1, p', s', _, _, _, lc', rc', mc', hlt, by go_num, HE⟩
                case measure => simp [intOf]; omega
        · obtain rfl : j = m := by omega
          have hL := Lib.hid (lives20 wr)
          have hB := Lib.hid H.out.b
          clear H HD
          go_wp2_with fail
          refine hL.out.mono ?_
          rintro en wF ⟨rfl, hbF⟩
          go_wp2_with fail
          go_ret
          exact ⟨rfl, hB.out.trans (hbF.mono hB.out.size)⟩
end Go.Proofs.Ytcpgapnikgchaaa
