/- Where steps end is nothing behind the nearest of all: the law and the walk of TopGreedy. Printed by genGrG.py out of GrG.frame. -/
import Derived.Test.YtpbjndjbpihfmaaGrA
import Derived.Test.YtpbjndjbpihfmaaBg7
namespace Go.Proofs.Ytpbjndjbpihfmaa
open Go.RowKit
theorem hasX0 (t : Int) : hasX t 0 = true := by unfold hasX bits; simp; rfl
theorem ordI_negG {a b : Sp} : ordI a b < 0 ↔ a.d < b.d ∨ (a.d = b.d ∧ a.id < b.id) := by
  unfold ordI
  have h1 := cmpI_neg (x := a.d) (y := b.d)
  have h2 := cmpI_neg (x := a.id) (y := b.id)
  have z1 := cmpI_zero (x := a.d) (y := b.d)
  split <;> omega
/-- A hit of a slot. -/
def htN (q : IS) (ns : List ND) (i : Nat) : Sp := ⟨(spN q ns i).d, (spN q ns i).id, 0⟩
theorem hit_all (q : IS) (ns : List ND) : hitL q 0 (allX ns) = (liveI ns).map fun z => htN q ns z.toNat := by
  unfold hitL allX
  rw [List.filter_eq_self.2 (fun d _ => hasX0 d.tags), List.map_map]
  rfl
/-- The nearest of all. -/
structure BestR (q : IS) (ns : List ND) (x : Sp) : Prop where
  s0 : x.s = 0
  mem : ∃ i : Nat, thN ns i = true ∧ x = htN q ns i
  le : ∀ i : Nat, thN ns i = true → ¬ (ordI (htN q ns i) x < 0)
theorem best_of {q : IS} {ns : List ND} {x : Sp} (hx : (sortSp (hitL q 0 (allX ns)))[0]? = some x) : BestR q ns x := by
  obtain ⟨h1, h2⟩ := sort_min hx
  rw [hit_all] at h1 h2
  obtain ⟨z, hz, rfl⟩ := List.mem_map.1 h1
  obtain ⟨i, rfl, hi⟩ := thB_nat_iff.1 (mem_liveIG.1 hz)
  rw [Int.toNat_natCast] at h2 ⊢
  refine ⟨rfl, ⟨i, hi, rfl⟩, fun j hj => ?_⟩
  have := h2 (htN q ns j) (List.mem_map.2 ⟨(j : Int), mem_liveIG.2 (by rw [thB_nat]; exact hj), by rw [Int.toNat_natCast]⟩)
  rw [ahB_false] at this
  rw [ordI_negG]
  omega
/-- If all are neighbours of all, steps end at the nearest, at once. -/
theorem full_end {q : IS} {ns : List ND} {links en tp : Int} (hc : chkB ns links en tp = true) (hf : ∀ z ∈ liveI ns, (nearI ns z 0).length + 1 = (liveI ns).length) {l : List Nat} {z : Nat} {x : Sp} (hw : WayR q ns (l ++ [z])) (hz : StepR q ns z z) (hx : BestR q ns x) :
    (spN q ns z).d = x.d ∧ (spN q ns z).id = x.id ∧ l.length ≤ 1 := by
  have hmin : ∀ a b : Nat, thN ns a = true → StepR q ns a b → ∀ i : Nat, thN ns i = true → ahB (spN q ns i) (spN q ns b) = false := by
    intro a b ha hs i hi
    refine hs.2.2 _ ?_
    rcases near_full hc ha (hf (a : Int) (mem_liveIG.2 (by rw [thB_nat]; exact ha))) (i : Int) (by rw [thB_nat]; exact hi) with e | e
    · have : i = a := by omega
      subst this
      exact List.mem_cons_self ..
    · exact List.mem_cons_of_mem _ (List.mem_map.2 ⟨(i : Int), e, by rw [Int.toNat_natCast]⟩)
  have hzt := hw.th z (by simp)
  obtain ⟨i, hi, rfl⟩ := hx.mem
  have h1 := hmin z z hzt hz i hi
  have h2 := hx.le z hzt
  rw [ordI_negG] at h2
  rw [ahB_false] at h1
  have e1 : (htN q ns i).d = (spN q ns i).d := rfl
  have e2 : (htN q ns i).id = (spN q ns i).id := rfl
  have e3 : (htN q ns z).d = (spN q ns z).d := rfl
  have e4 : (htN q ns z).id = (spN q ns z).id := rfl
  refine ⟨by omega, by omega, ?_⟩
  refine Classical.byContradiction fun hl => ?_
  -- two steps in a row
  have hl2 : 2 ≤ l.length := by omega
  have g0 : ∃ a, (l ++ [z])[0]? = some a := ⟨_, List.getElem?_eq_getElem (by simp)⟩
  have g1 : ∃ a, (l ++ [z])[1]? = some a := ⟨_, List.getElem?_eq_getElem (by simp; omega)⟩
  have g2 : ∃ a, (l ++ [z])[2]? = some a := ⟨_, List.getElem?_eq_getElem (by simp; omega)⟩
  obtain ⟨a, ha⟩ := g0
  obtain ⟨b, hb⟩ := g1
  obtain ⟨d, hd⟩ := g2
  have s1 := hw.st 0 a b ha hb
  have s2 := hw.st 1 b d hb hd
  have hat := hw.th a (List.mem_of_getElem? ha)
  have hbt := hw.th b (List.mem_of_getElem? hb)
  have hdt := hw.th d (List.mem_of_getElem? hd)
  have m1 := hmin a b hat s1.1 d hdt
  have m2 := hmin b d hbt s2.1 b hbt
  exact s2.2 (spN_s (ah_tot m1 m2))
theorem castL_len (l : List Nat) : (castL l).length = l.length := by simp [castL]
theorem yieldsIf_eqlH {ops : Array Oper} {S : World → Prop} {o : Oper} {a : Act} {t' : TypeId} {u v : Sp} (hd : u.d = v.d) (hi : u.id = v.id) (hw : Region.wanted o (yielded ops a.tmps) = true) (x y : Operand) (ho : o.op = .binOp .eql 29 x y t') (hx : a.eval x = hitV u) (hy : a.eval y = hitV v) : YieldsIf Try.prog ops S o (.bool true) a := by
  refine .inl ⟨hw, fun w _ => ?_⟩
  generalize a.eval = ev at hx hy
  unfold execOp
  simp only [ho]
  unfold hitV at hx hy
  rw [← hd, ← hi] at hy
  simp [go_sem, hx, hy, Try.underlying29]
theorem yieldsIf_leqG {P : Program} {ops : Array Oper} {S : World → Prop} {o : Oper} {a : Act} {t t' : TypeId} {k : IntKind} {m n : Int} {r : Bool} (hr : decide (m ≤ n) = r) (hw : Region.wanted o (yielded ops a.tmps) = true) (x y : Operand) (ho : o.op = .binOp .leq t x y t') (hx : a.eval x = .int k m) (hy : a.eval y = .int k n) : YieldsIf P ops S o (.bool r) a := by
  refine .inl ⟨hw, fun w _ => ?_⟩
  unfold execOp
  simp only [ho, hx, hy]
  simp [go_sem, ← hr]
theorem yieldsIf_subG {P : Program} {ops : Array Oper} {S : World → Prop} {o : Oper} {a : Act} {t t' : TypeId} {m n z : Int} (hr : IntKind.i64.wrap (m - n) = z) (hw : Region.wanted o (yielded ops a.tmps) = true) (x y : Operand) (ho : o.op = .binOp .sub t x y t') (hx : a.eval x = .int .i64 m) (hy : a.eval y = .int .i64 n) : YieldsIf P ops S o (.int .i64 z) a := by
  refine .inl ⟨hw, fun w _ => ?_⟩
  unfold execOp
  simp only [ho, hx, hy]
  simp [go_sem, ← hr]
theorem load_intG {w : World} {b o : Nat} {z : Int} (h : w.cell? ⟨b, o, none⟩ = some (.int .i64 z)) : (Instr.loadAt 3 (.pointer (some ⟨b, o, none⟩))).run Try.prog w = .ok (.int .i64 z) w := by
  simp [go_sem, h]
set_option maxRecDepth 100000 in
set_option maxHeartbeats 16000000 in
theorem greedy (A : Option Addr) (n c : Nat) (ns : List ND) (en tp links : Int) (q : IS) (slot : Int) (w : World) (hg : PgAt w w.heap.size A n c ns) (hq : q.Vec w w.heap.size) :
    Calls Try.prog 4 #[.agg (pgL A n c en tp), .int .i64 links, q.v, .int .i64 slot] w (RetB true w) := by
  obtain ⟨w1, hw1⟩ : ∃ x, w.alloc (.cells (pgL A n c en tp) 36) = x := ⟨_, rfl⟩
  obtain ⟨C1, b1⟩ := box_plane hw1
  have HG1 := Lib.hid ((hg.below b1).more b1.size)
  have HQ1 := Lib.hid ((hq.below b1).more b1.size)
  have HC1 := Lib.hid C1
  have HB1 := Lib.hid b1
  have HNL := Lib.hid hg.len
  have HBG := Lib.hid (begins7 w1)
  have HPC : Hid (∀ W, Below w1.heap.size w1 W → W.cell? ⟨w.heap.size, 0, none⟩ = some (.slice A n c) ∧ W.cell? ⟨w.heap.size, 1, none⟩ = some (.int .i64 en) ∧ W.cell? ⟨w.heap.size, 2, none⟩ = some (.int .i64 tp)) := fun W hb =>
    have h := HC1.out.below hb HC1.out.lt
    ⟨h.cell 0, h.cell 1, h.cell 2⟩
  have HGT : Hid (∀ W, Below w1.heap.size w1 W → PgAt W W.heap.size A n c ns) := fun W hb => (HG1.out.below hb).more hb.size
  have HQT : Hid (∀ W, Below w1.heap.size w1 W → q.Vec W W.heap.size) := fun W hb => (HQ1.out.below hb).more hb.size
  clear hg hq C1 b1
  unfold pgL at hw1 ⊢
  by_cases h20 : 20 < n
  · have t20 : decide ((n : Int) > 20) = true := decide_eq_true (by omega)
    have t20' : decide (20 < n) = true := decide_eq_true h20
    clear h20
    go_enter Try.func4, Try.ntmps4
    go_upto_region 1 with fail
    (try rw [hw1])
    clear hw1
    go_wp2_with (go_at_call 5; (with_reducible refine HBG.out.mono ?_); rintro e w2 ⟨rfl, hb⟩; have HB2 := Lib.hid hb; obtain ⟨z0, z1, z2⟩ := HPC.out w2 hb; clear hb)
    go_ret
    exact ⟨rfl, HB1.out.trans (HB2.out.mono HB1.out.size)⟩
  have hn20 : n ≤ 20 := by omega
  have t20 : decide ((n : Int) > 20) = false := decide_eq_false (by omega)
  have HCK : Hid (∀ W, Below w1.heap.size w1 W → Calls Try.prog 10 #[.agg #[.slice A n c, .int .i64 en, .int .i64 tp], .int .i64 links] W (RetE (chkW ns links en tp) W)) := fun W hb => pl_check A n c ns en tp links W (HGT.out W hb)
  have HTH : Hid (∀ W, Below w1.heap.size w1 W → Calls Try.prog 11 #[.agg #[.slice A n c, .int .i64 en, .int .i64 tp], .int .i64 slot] W (RetB (thB ns slot) W)) := fun W hb => pl_there A n c ns en tp slot W (HGT.out W hb)
  cases hck : chkB ns links en tp
  · have hcw := chkW_no hck
    rw [hcw] at HCK
    clear h20 hck hcw
    go_enter Try.func4, Try.ntmps4
    go_upto_region 1 with fail
    (try rw [hw1])
    clear hw1
    go_wp2_with (first
      | (go_at_call 5; (with_reducible refine HBG.out.mono ?_); rintro e w2 ⟨rfl, hb⟩; have HB2 := Lib.hid hb; obtain ⟨z0, z1, z2⟩ := HPC.out w2 hb; clear hb)
      | (go_at_call 10; (refine (HCK.out w2 HB2.out).mono ?_); rintro e w3 ⟨rfl, hb⟩; have HB3 := Lib.hid (HB2.out.trans (hb.mono HB2.out.size)); clear hb))
    go_ret
    exact ⟨rfl, HB1.out.trans (HB3.out.mono HB1.out.size)⟩
  have hcw := chkW_yes hck
  rw [hcw] at HCK
  cases hth : thB ns slot
  · rw [hth] at HTH
    clear h20 hck hcw hth
    go_enter Try.func4, Try.ntmps4
    go_upto_region 1 with fail
    (try rw [hw1])
    clear hw1
    go_wp2_with (first
      | (go_at_call 5; (with_reducible refine HBG.out.mono ?_); rintro e w2 ⟨rfl, hb⟩; have HB2 := Lib.hid hb; obtain ⟨z0, z1, z2⟩ := HPC.out w2 hb; clear hb)
      | (go_at_call 10; (refine (HCK.out w2 HB2.out).mono ?_); rintro e w3 ⟨rfl, hb⟩; have HB3 := Lib.hid (HB2.out.trans (hb.mono HB2.out.size)); clear hb; obtain ⟨z3, z4, z5⟩ := HPC.out w3 HB3.out)
      | (go_at_call 11; (refine (HTH.out w3 HB3.out).mono ?_); rintro e w4 ⟨rfl, hb⟩; have HB4 := Lib.hid (HB3.out.trans (hb.mono HB3.out.size)); clear hb))
    go_ret
    exact ⟨rfl, HB1.out.trans (HB4.out.mono HB1.out.size)⟩
  rw [hth] at HTH
  obtain ⟨k, rfl, hk⟩ := thB_nat_iff.1 hth
  have HK := Lib.hid hk
  have HCB := Lib.hid hck
  have HN20 := Lib.hid hn20
  clear h20 hck hcw hth hk
  go_enter Try.func4, Try.ntmps4
  go_upto_region 1 with fail
  (try rw [hw1])
  clear hw1
  go_upto_region 5 with (first
    | (go_at_call 5; (with_reducible refine HBG.out.mono ?_); rintro e w2 ⟨rfl, hb⟩; have HB2 := Lib.hid hb; obtain ⟨z0, z1, z2⟩ := HPC.out w2 hb; clear hb)
    | (go_at_call 10; (refine (HCK.out w2 HB2.out).mono ?_); rintro e w3 ⟨rfl, hb⟩; have HB3 := Lib.hid (HB2.out.trans (hb.mono HB2.out.size)); clear hb; obtain ⟨z3, z4, z5⟩ := HPC.out w3 HB3.out)
    | (go_at_call 11; (refine (HTH.out w3 HB3.out).mono ?_); rintro e w4 ⟨rfl, hb⟩; have HB4 := Lib.hid (HB3.out.trans (hb.mono HB3.out.size)); clear hb))
  obtain ⟨z6, z7, z8⟩ := HPC.out w4 HB4.out
  have HAL := Lib.hid (top_all A n c ns en tp w4 (HGT.out w4 HB4.out))
  unfold pgL at HAL
  have HSE : Hid (∀ (W : World) (A7 : Option Addr) (m7 c7 : Nat), Below w1.heap.size w1 W → Its W W.heap.size A7 m7 (allX ns) → Calls Try.prog 6 #[.slice A7 m7 c7, q.v, .int .u64 0, .int .i64 1] W (fun e w' => ∃ (g c1 : Nat) (x : Sp), e = .returned (.slice (some ⟨g, 0, none⟩) 1 c1) ∧ HtAt w' w'.heap.size (some ⟨g, 0, none⟩) 1 [x] ∧ BestR q ns x ∧ Below W.heap.size W w')) := by
    intro W A7 m7 c7 hb hI
    have hl : (hitL q 0 (allX ns)).length = (liveI ns).length := by rw [hit_all, List.length_map]
    have hl1 : 0 < (sortSp (hitL q 0 (allX ns))).length := by
      rw [sortSp_len, hl]
      exact List.length_pos_of_mem (mem_liveIG.2 (by rw [thB_nat]; exact HK.out))
    have hm : m7 ≤ 1048576 := by
      rw [← hI.len]
      unfold allX
      rw [List.length_map]
      have h1 : (liveI ns).length ≤ ns.length := lvI_le ns _
      have h2 := HN20.out
      rw [HNL.out] at h1
      omega
    refine (ex_search A7 m7 c7 (allX ns) q 0 1 W hI (HQT.out W hb) hm).mono ?_
    rintro e w' ⟨g, n1, c1, rfl, hs, _, _, hb'⟩
    obtain ⟨x, hx⟩ : ∃ x, (sortSp (hitL q 0 (allX ns)))[0]? = some x := ⟨_, List.getElem?_eq_getElem hl1⟩
    rw [show (min (max (1 : Int) 0) ((sortSp (hitL q 0 (allX ns))).length : Int)).toNat = 1 by omega, take_stepX hx, List.take_zero] at hs
    obtain rfl : 1 = n1 := hs.len
    exact ⟨g, c1, x, rfl, hs, best_of hx, hb'⟩
  have HLV : Hid (∀ W, Below w1.heap.size w1 W → Calls Try.prog 13 #[.agg #[.slice A n c, .int .i64 en, .int .i64 tp], q.v, .int .i64 ((k : Nat) : Int), .int .i64 0] W (fun e w' => ∃ (A' : Option Addr) (m c' : Nat) (l : List Nat) (z : Nat), e = .returned (.slice A' m c') ∧ OwnI w' W.heap.size A' m c' (castL (l ++ [z])) ∧ WayR q ns (l ++ [z]) ∧ (l ++ [z])[0]? = some k ∧ StepR q ns z z ∧ m ≤ n ∧ Below W.heap.size W w')) := fun W hb => wk_level A n c ns en tp q k W (HGT.out W hb) (HQT.out W hb) HK.out
  go_upto_region 6 with (first
    | (go_at_call 12; (with_reducible refine HAL.out.mono ?_); rintro e w5 ⟨A7, m7, c7, rfl, hI, hb⟩; clear HAL; have HB5 := Lib.hid (HB4.out.trans (hb.mono HB4.out.size)); have HS5 := Lib.hid (HSE.out w5 A7 m7 c7 HB5.out hI); clear hI hb HSE)
    | (go_at_call 6; (with_reducible refine HS5.out.mono ?_); rintro e w6 ⟨gb, cb, x, rfl, hx, hbx, hb⟩; clear HS5; have HXA := Lib.hid hx; have HBX := Lib.hid hbx; have HB6 := Lib.hid (HB5.out.trans (hb.mono HB5.out.size)); obtain ⟨y0, y1, y2⟩ := HPC.out w6 HB6.out; clear hx hbx hb))
  go_upto_region 7 with (go_at_call 13; (refine (HLV.out w6 HB6.out).mono ?_); rintro e w7 ⟨A9, m, c9, l, z, rfl, ho, hw, hf, hz, hmn, hb⟩; have HO7 := Lib.hid ho; have HWR := Lib.hid hw; have HZ := Lib.hid hz; have HB7 := Lib.hid (HB6.out.trans (hb.mono HB6.out.size)); have HMN : Hid (m ≤ 20) := Nat.le_trans hmn HN20.out; have HX7 := Lib.hid (HtAt.on HXA.out (Nat.le_refl _) hb); clear ho hw hf hz hmn hb)
  have HML : Hid (l.length + 1 = m) := by
    show _ = _
    have := HO7.out.len
    rw [castL_len, List.length_append] at this
    exact this
  have HZT : Hid (thN ns z = true) := HWR.out.th z (by simp)
  have HZI : Hid (ig (castL (l ++ [z])) (m - 1) = ((z : Nat) : Int)) := by
    show _ = _
    rw [← HML.out, Nat.add_sub_cancel]
    unfold ig castL
    rw [List.getD_eq_getElem?_getD, List.getElem?_map, List.getElem?_append_right (Nat.le_refl _), Nat.sub_self]
    rfl
  have tm : decide (m = 0) = false := decide_eq_false (by have := HML.out; omega)
  have hm0 : 0 < m := by have := HML.out; omega
  go_upto_region 9 with fail
  obtain ⟨g9, rfl⟩ : ∃ g, A9 = some ⟨g, 0, none⟩ := by
    rcases HO7.out.row with ⟨_, q1, _⟩ | ⟨g, q1, _⟩
    · omega
    · exact ⟨g, q1⟩
  have HWC : Hid (∀ W', Below w7.heap.size w7 W' → W'.cell? ⟨g9, 0 + (m - 1) * 1, none⟩ = some (.int .i64 ((z : Nat) : Int))) := by
    intro W' hb
    obtain ⟨b, o, e, hbl, hcl⟩ := HO7.out.rd.atI (show m - 1 < m by omega)
    injection e with e; injection e with e1 e2 _
    subst e1 e2
    rw [HZI.out] at hcl
    rw [Nat.mul_one]
    exact (hb.cell (p := ⟨g9, _, none⟩) hbl).trans hcl
  have HMS : Hid (IntKind.i64.wrap (((m : Nat) : Int) - 1) = ((m - 1 : Nat) : Int)) := by show _ = _; rw [IntKind.wrap_i64]; have := HMN.out; omega
  have HMLT : Hid (m - 1 < m) := by show _ < _; omega
  have HSPT : Hid (∀ W, Below w7.heap.size w7 W → Calls Try.prog 14 #[.agg #[.slice A n c, .int .i64 en, .int .i64 tp], q.v, .int .i64 ((z : Nat) : Int)] W (fun e w' => e = .returned (spV (spN q ns z)) ∧ Below W.heap.size W w')) := by
    intro W hb
    have h1 := HB7.out.trans (hb.mono HB7.out.size)
    exact walk_spot A n c ns en tp q z W (HGT.out W h1) (HQT.out W h1) (by rw [← HNL.out]; exact thN_lt HZT.out)
  have HK7 : Hid (Blk w7 w.heap.size 36 (pgL A n c en tp)) := HC1.out.below HB7.out HC1.out.lt
  clear tm hm0
  refine wp_region_held_drew (S := fun w' => Below w7.heap.size w7 w') (by kernel_rfl) (below_drewN (Below.refl _ _) 1) (fun hH => ?_)
  refine wpAnyH_take (i := 0) (v := .agg #[.slice A n c, .int .i64 en, .int .i64 tp]) rfl (by kernel_rfl) (by kernel_rfl) (by kernel_rfl) (fun _ _ _ h => h) (yieldsIf_loadP (by rfl) _ rfl rfl (fun _ s => plane_load (HK7.out.below s HK7.out.lt))) hH ?_
  (try simp only [List.getElem_toArray, List.getElem_cons_zero, Act.put, List.setIfInBounds_toArray, List.set_cons_zero, List.set_cons_succ])
  refine wpAnyH_take (i := 1) (v := q.v) rfl (by kernel_rfl) (by kernel_rfl) (by kernel_rfl) (fun _ _ _ h => h) (.inl ⟨by rfl, fun _ _ => by kernel_rfl⟩) hH ?_
  (try simp only [List.getElem_toArray, List.getElem_cons_zero, List.getElem_cons_succ, Act.put, List.setIfInBounds_toArray, List.set_cons_zero, List.set_cons_succ])
  refine wpAnyH_take (i := 2) (v := .slice (some ⟨g9, 0, none⟩) m c9) rfl (by kernel_rfl) (by kernel_rfl) (by kernel_rfl) (fun _ _ _ h => h) (.inl ⟨by rfl, fun _ _ => by kernel_rfl⟩) hH ?_
  (try simp only [List.getElem_toArray, List.getElem_cons_zero, List.getElem_cons_succ, Act.put, List.setIfInBounds_toArray, List.set_cons_zero, List.set_cons_succ])
  refine wpAnyH_take (i := 3) (v := .slice (some ⟨g9, 0, none⟩) m c9) rfl (by kernel_rfl) (by kernel_rfl) (by kernel_rfl) (fun _ _ _ h => h) (.inl ⟨by rfl, fun _ _ => by kernel_rfl⟩) hH ?_
  (try simp only [List.getElem_toArray, List.getElem_cons_zero, List.getElem_cons_succ, Act.put, List.setIfInBounds_toArray, List.set_cons_zero, List.set_cons_succ])
  refine wpAnyH_take (i := 4) (v := .int .i64 m) rfl (by kernel_rfl) (by kernel_rfl) (by kernel_rfl) (fun _ _ _ h => h) (.inl ⟨by rfl, fun _ _ => by kernel_rfl⟩) hH ?_
  (try simp only [List.getElem_toArray, List.getElem_cons_zero, List.getElem_cons_succ, Act.put, List.setIfInBounds_toArray, List.set_cons_zero, List.set_cons_succ])
  refine wpAnyH_take (i := 5) (v := .int .i64 ((m - 1 : Nat) : Int)) rfl (by kernel_rfl) (by kernel_rfl) (by kernel_rfl) (fun _ _ _ h => h) (yieldsIf_subG HMS.out (by rfl) _ _ rfl rfl rfl) hH ?_
  (try simp only [List.getElem_toArray, List.getElem_cons_zero, List.getElem_cons_succ, Act.put, List.setIfInBounds_toArray, List.set_cons_zero, List.set_cons_succ])
  refine wpAnyH_take (i := 6) (v := .pointer (some ⟨g9, 0 + (m - 1) * 1, none⟩)) rfl (by kernel_rfl) (by kernel_rfl) (by kernel_rfl) (fun _ _ _ h => h) (yieldsIf_indexS (k := (m - 1)) Try.underlying41 elemI (by rfl) _ _ rfl rfl rfl HMLT.out) hH ?_
  (try simp only [List.getElem_toArray, List.getElem_cons_zero, List.getElem_cons_succ, Act.put, List.setIfInBounds_toArray, List.set_cons_zero, List.set_cons_succ])
  refine wpAnyH_take (i := 7) (v := .int .i64 ((z : Nat) : Int)) rfl (by kernel_rfl) (by kernel_rfl) (by kernel_rfl) (fun _ _ _ h => h) (yieldsIf_loadP (by rfl) _ rfl rfl (fun _ s => load_intG (HWC.out _ s))) hH ?_
  (try simp only [List.getElem_toArray, List.getElem_cons_zero, List.getElem_cons_succ, Act.put, List.setIfInBounds_toArray, List.set_cons_zero, List.set_cons_succ])
  refine wpAnyH_all (rs := [8, 10]) (by kernel_rfl) (by simp) (fun i9 hi9 => ?_)
  rcases (by simpa using hi9 : i9 = 8 ∨ i9 = 10) with rfl | rfl
  · refine wpOp_call 14 #[.agg #[.slice A n c, .int .i64 en, .int .i64 tp], q.v, .int .i64 ((z : Nat) : Int)] _ (by rfl) (by kernel_rfl) (by kernel_rfl) (HSPT.out _ hH) ?_
    rintro e Z1 ⟨rfl, hb1⟩
    have h1 : Below w7.heap.size w7 Z1 := hH.trans (hb1.mono hH.size)
    refine ⟨_, rfl, h1, ?_⟩
    (try simp only [List.getElem_toArray, List.getElem_cons_zero, List.getElem_cons_succ, Act.put, List.setIfInBounds_toArray, List.set_cons_zero, List.set_cons_succ])
    refine wpAnyH_take (i := 9) (v := hitV (spN q ns z)) rfl (by kernel_rfl) (by kernel_rfl) (by kernel_rfl) (fun _ _ _ h => h) (.inl ⟨by rfl, fun _ _ => by kernel_rfl⟩) h1 ?_
    (try simp only [List.getElem_toArray, List.getElem_cons_zero, List.getElem_cons_succ, Act.put, List.setIfInBounds_toArray, List.set_cons_zero, List.set_cons_succ])
    have h2 : Below w7.heap.size w7 (Z1.alloc (.cells hc0 29)) := h1.alloc h1.size _
    refine wpAnyH_makeK 10 (.pointer (some ⟨Z1.heap.size, 0, none⟩)) (by kernel_rfl) (by rfl) (by kernel_rfl) (by kernel_rfl) h2 ?_
    (try simp only [List.getElem_toArray, List.getElem_cons_zero, List.getElem_cons_succ, Act.put, List.setIfInBounds_toArray, List.set_cons_zero, List.set_cons_succ])
    have SR := ht_put Z1 (spN q ns z)
    have hkv := ht_blk Z1 (spN q ns z)
    have hbv := put_bel Z1 (.cells hc0 29) (hitC (spN q ns z)).toList
    obtain ⟨V3, hV3⟩ : ∃ y, (Z1.alloc (.cells hc0 29)).setCells Z1.heap.size 0 (hitC (spN q ns z)).toList = y := ⟨_, rfl⟩
    rw [hV3] at SR hkv hbv
    have h3 : Below w7.heap.size w7 V3 := h1.trans (hbv.mono h1.size)
    refine wpAnyH_store 11 _ _ _ (by kernel_rfl) (by rfl) (by kernel_rfl) (by rfl) (by rfl) (by rfl) SR h3 ?_
    (try simp only [List.getElem_toArray, List.getElem_cons_zero, List.getElem_cons_succ, Act.put])
    refine wpAnyH_done (by kernel_rfl) ?_ _
    obtain ⟨xb, hxb⟩ : ∃ xb, Z1.heap.size = xb := ⟨_, rfl⟩
    rw [hxb] at hkv
    (try rw [hxb])
    clear SR hbv hV3 h2 hb1 hxb
    have HB8 : Hid (Below w1.heap.size w1 V3) := HB7.out.trans (Below.mono h3 HB7.out.size)
    have HK8 : Hid (Blk V3 xb 29 (hitC (spN q ns z))) := hkv
    have HBR : Hid (∀ W', Below V3.heap.size V3 W' → W'.rangeAt gb (0 + 0 * 2) (htL x)) := by
      intro W' hb
      obtain ⟨b, o, y, e, hbl, hy, hr⟩ := HX7.out.at_ (show 0 < 1 by decide)
      injection e with e; injection e with e1 e2 _
      subst e1 e2
      obtain rfl : y = x := by simpa using hy.symm
      exact rangeAt_keep hr fun j => (h3.trans (Below.mono hb h3.size)).cell (p := ⟨gb, j, none⟩) hbl
    clear hH
    go_upto_region 10 with fail
    refine wp_region_held_drew (S := fun w' => Below V3.heap.size V3 w') (by kernel_rfl) (below_drewN (Below.refl _ _) 1) (fun hH => ?_)
    refine wpAnyH_take (i := 0) (v := hitV (spN q ns z)) rfl (by kernel_rfl) (by kernel_rfl) (by kernel_rfl) (fun _ _ _ h => h) (yieldsIf_loadP (by rfl) _ rfl rfl (fun _ s => hit_load (x := spN q ns z) (HK8.out.below s HK8.out.lt))) hH ?_
    (try simp only [List.getElem_toArray, List.getElem_cons_zero, Act.put, List.setIfInBounds_toArray, List.set_cons_zero, List.set_cons_succ])
    refine wpAnyH_take (i := 1) (v := .slice (some ⟨gb, 0, none⟩) 1 cb) rfl (by kernel_rfl) (by kernel_rfl) (by kernel_rfl) (fun _ _ _ h => h) (.inl ⟨by rfl, fun _ _ => by kernel_rfl⟩) hH ?_
    (try simp only [List.getElem_toArray, List.getElem_cons_zero, List.getElem_cons_succ, Act.put, List.setIfInBounds_toArray, List.set_cons_zero, List.set_cons_succ])
    refine wpAnyH_take (i := 2) (v := .pointer (some ⟨gb, 0 + 0 * 2, none⟩)) rfl (by kernel_rfl) (by kernel_rfl) (by kernel_rfl) (fun _ _ _ h => h) (yieldsIf_indexS (k := 0) Try.underlying26 sizeHit (by rfl) _ _ rfl rfl rfl (by decide)) hH ?_
    (try simp only [List.getElem_toArray, List.getElem_cons_zero, List.getElem_cons_succ, Act.put, List.setIfInBounds_toArray, List.set_cons_zero, List.set_cons_succ])
    refine wpAnyH_take (i := 3) (v := hitV x) rfl (by kernel_rfl) (by kernel_rfl) (by kernel_rfl) (fun _ _ _ h => h) (yieldsIf_loadP (by rfl) _ rfl rfl (fun _ s => load_htB (HBR.out _ s))) hH ?_
    (try simp only [List.getElem_toArray, List.getElem_cons_zero, List.getElem_cons_succ, Act.put, List.setIfInBounds_toArray, List.set_cons_zero, List.set_cons_succ])
    refine wpAnyH_call 4 9 #[hitV (spN q ns z), hitV x] _ (by kernel_rfl) (by rfl) (by kernel_rfl) (by kernel_rfl) (rank_hit (spN q ns z) x _) ?_
    rintro e Z4 ⟨rfl, g4⟩
    rw [show decide (ordI (spN q ns z) x < 0) = false from decide_eq_false (HBX.out.le z HZT.out)]
    have h4 := hH.trans (g4.below.mono hH.size)
    refine ⟨_, rfl, h4, ?_⟩
    (try simp only [List.getElem_toArray, List.getElem_cons_zero, List.getElem_cons_succ, Act.put, List.setIfInBounds_toArray, List.set_cons_zero, List.set_cons_succ])
    refine wpAnyH_done (by kernel_rfl) ?_ _
    have HB10 : Hid (Below w1.heap.size w1 Z4) := HB8.out.trans (Below.mono h4 HB8.out.size)
    have HK10 : Hid (Blk Z4 xb 29 (hitC (spN q ns z))) := HK8.out.below h4 HK8.out.lt
    have HBR10 : Hid (∀ W', Below Z4.heap.size Z4 W' → W'.rangeAt gb (0 + 0 * 2) (htL x)) := fun W' hb => HBR.out W' (h4.trans (Below.mono hb h4.size))
    clear h4 g4
    obtain ⟨z0, z1, z2⟩ := HPC.out Z4 HB10.out
    have HLI := pl_live A n c ns en tp Z4 (HGT.out Z4 HB10.out)
    unfold pgL at HLI
    replace HLI := Lib.hid HLI
    go_wp2_with (go_at_call 15; (with_reducible refine HLI.out.mono ?_); rintro e w9 ⟨AL, ml, cl, rfl, ho, hb⟩; clear HLI; have HOL := Lib.hid ho; have HBL := Lib.hid hb; clear ho hb)
    have HLL : Hid ((liveI ns).length = ml) := HOL.out.len
    have hml : ml ≤ 20 := by
      have h1 : (liveI ns).length ≤ ns.length := lvI_le ns _
      have h2 := HN20.out
      rw [HLL.out, HNL.out] at h1
      omega
    have HNT : Hid (∀ (W : World) (i : Nat), Below w1.heap.size w1 W → Calls Try.prog 16 #[.agg #[.slice A n c, .int .i64 en, .int .i64 tp], .int .i64 ((i : Nat) : Int), .int .i64 0] W (RetI (nearI ns i 0) W)) := fun W i hb => pl_near A n c ns en tp i 0 W (HGT.out W hb)
    go_loopw [69, 12] (fun i v wr => ∃ (t : Nat) (b : Bool), t ≤ ml ∧ i = .int .i64 (t : Nat) ∧ v = .bool b ∧ Hid (b = true → ∀ y ∈ (liveI ns).take t, (nearI ns y 0).length + 1 = (liveI ns).length) ∧ Hid (Below Z4.heap.size Z4 wr) ∧ Hid (Below w9.heap.size w9 wr)) (fun i _ _ => ml - (intOf i).toNat)
    case atStart => exact ⟨0, true, Nat.zero_le _, rfl, rfl, (show true = true → ∀ y ∈ (liveI ns).take 0, _ from fun _ y hy => by simp at hy), HBL.out, Below.refl _ _⟩
    case round =>
      obtain ⟨t, b, ht, rfl, rfl, HF, HBT, HB9⟩ := hrel
      by_cases hlt : t < ml
      · obtain ⟨b2, o2, rfl, hb2, hc2⟩ := Rd.atI (Rd.below HOL.out.rd HB9.out) hlt
        obtain ⟨y, hy⟩ : ∃ y, ig (liveI ns) t = y := ⟨_, rfl⟩
        rw [hy] at hc2
        have hly : (liveI ns)[t]? = some y := by
          rw [← hy, ig, List.getD_eq_getElem?_getD, List.getElem?_eq_getElem (by rw [HLL.out]; exact hlt)]
          rfl
        obtain ⟨i, rfl, hi⟩ := thB_nat_iff.1 (mem_liveIG.1 (List.mem_of_getElem? hly))
        have HLY := Lib.hid hly
        have HLT := Lib.hid hlt
        have HBW : Hid (Below w1.heap.size w1 wr) := HB10.out.trans (Below.mono HBT.out HB10.out.size)
        obtain ⟨y0, y1, y2⟩ := HPC.out wr HBW.out
        have e1 : wrap64 (((ml : Nat) : Int) - 1) = ((ml - 1 : Nat) : Int) := by unfold wrap64; omega
        clear hy hly hb2
        cases b
        · go_wp2_with fail
          go_roundw
          case rel => exact ⟨t + 1, false, HLT.out, by go_num, rfl, (show false = true → _ from fun e => by cases e), HBT.out, HB9.out⟩
          case measure => have := HLT.out; simp [intOf]; omega
        · have HNR := Lib.hid (HNT.out wr i HBW.out)
          by_cases hq : (nearI ns i 0).length + 1 = ml
          · have hq1 : (nearI ns i 0).length = ml - 1 := by omega
            have HQ := Lib.hid hq
            clear hq
            go_wp2_with (go_at_call 16; (refine HNR.out.mono ?_); rintro e wa ⟨AN, mn, cn, rfl, ho, hb⟩; clear HNR; have hmn0 : mn = ml - 1 := (by have := ho.len; omega); subst hmn0; have HBa := Lib.hid hb; clear ho hb)
            go_roundw
            case rel =>
              refine ⟨t + 1, true, HLT.out, by go_num, (by have h9 : ((((ml - 1 : Nat) : Int)) == (ml : Int) - 1) = true := (by have := HLT.out; rw [beq_iff_eq]; omega); rw [h9]), ?_, HBT.out.trans (HBa.out.mono HBT.out.size), HB9.out.trans (HBa.out.mono HB9.out.size)⟩
              show true = true → ∀ y ∈ (liveI ns).take (t + 1), _
              intro _ y hy
              rw [take_stepX HLY.out] at hy
              rcases List.mem_append.1 hy with hy | hy
              · exact HF.out (by first | trivial | rfl) y hy
              · obtain rfl : y = _ := by simpa using hy
                rw [HLL.out]
                exact HQ.out
            case measure => have := HLT.out; simp [intOf]; omega
          · have hq1 : decide ((nearI ns i 0).length = ml - 1) = false := decide_eq_false (by omega)
            have HQ := Lib.hid hq1
            clear hq hq1
            go_wp2_with (go_at_call 16; (refine HNR.out.mono ?_); rintro e wa ⟨AN, mn, cn, rfl, ho, hb⟩; clear HNR; have tq : decide (mn = ml - 1) = false := (by have := ho.len; rw [← this]; exact HQ.out); have HBa := Lib.hid hb; clear ho hb)
            go_roundw
            case rel => exact ⟨t + 1, false, HLT.out, by go_num, (by have h9 : (((mn : Nat) : Int) == (ml : Int) - 1) = false := (by have h7 := HLT.out; have h8 := of_decide_eq_false tq; rw [beq_eq_false_iff_ne]; omega); rw [h9]), (show false = true → _ from fun e => by cases e), HBT.out.trans (HBa.out.mono HBT.out.size), HB9.out.trans (HBa.out.mono HB9.out.size)⟩
            case measure => have := HLT.out; simp [intOf]; omega
      · obtain rfl : t = ml := by omega
        clear hlt ht
        have HBF : Hid (Below w.heap.size w wr) := HB1.out.trans (Below.mono (HB10.out.trans (Below.mono HBT.out HB10.out.size)) HB1.out.size)
        cases b
        · go_upto_region 19 with fail
          refine wp_region_held_drew (S := fun w' => Below wr.heap.size wr w') (by kernel_rfl) (below_drewN (Below.refl _ _) 1) (fun hH => ?_)
          refine wpAnyH_take (i := 0) (v := .bool false) rfl (by kernel_rfl) (by kernel_rfl) (by kernel_rfl) (fun _ _ _ h => h) (.inl ⟨by rfl, fun _ _ => by kernel_rfl⟩) hH ?_
          (try simp only [List.getElem_toArray, List.getElem_cons_zero, Act.put, List.setIfInBounds_toArray, List.set_cons_zero, List.set_cons_succ])
          refine wpAnyH_take (i := 1) (v := .bool true) rfl (by kernel_rfl) (by kernel_rfl) (by kernel_rfl) (fun _ _ _ h => h) (.inl ⟨by rfl, fun _ _ => by kernel_rfl⟩) hH ?_
          (try simp only [List.getElem_toArray, List.getElem_cons_zero, List.getElem_cons_succ, Act.put, List.setIfInBounds_toArray, List.set_cons_zero, List.set_cons_succ])
          refine wpAnyH_take (i := 2) (v := .bool true) rfl (by kernel_rfl) (by kernel_rfl) (by kernel_rfl) (fun _ _ _ h => h) (.inl ⟨by rfl, fun _ _ => by kernel_rfl⟩) hH ?_
          (try simp only [List.getElem_toArray, List.getElem_cons_zero, List.getElem_cons_succ, Act.put, List.setIfInBounds_toArray, List.set_cons_zero, List.set_cons_succ])
          refine wpAnyH_take (i := 3) (v := undef) rfl (by kernel_rfl) (by kernel_rfl) (by kernel_rfl) (fun _ _ _ h => h) (.inr ⟨by rfl, rfl⟩) hH ?_
          (try simp only [List.getElem_toArray, List.getElem_cons_zero, List.getElem_cons_succ, Act.put, List.setIfInBounds_toArray, List.set_cons_zero, List.set_cons_succ])
          refine wpAnyH_take (i := 4) (v := undef) rfl (by kernel_rfl) (by kernel_rfl) (by kernel_rfl) (fun _ _ _ h => h) (.inr ⟨by rfl, rfl⟩) hH ?_
          (try simp only [List.getElem_toArray, List.getElem_cons_zero, List.getElem_cons_succ, Act.put, List.setIfInBounds_toArray, List.set_cons_zero, List.set_cons_succ])
          refine wpAnyH_take (i := 5) (v := undef) rfl (by kernel_rfl) (by kernel_rfl) (by kernel_rfl) (fun _ _ _ h => h) (.inr ⟨by rfl, rfl⟩) hH ?_
          (try simp only [List.getElem_toArray, List.getElem_cons_zero, List.getElem_cons_succ, Act.put, List.setIfInBounds_toArray, List.set_cons_zero, List.set_cons_succ])
          refine wpAnyH_take (i := 6) (v := undef) rfl (by kernel_rfl) (by kernel_rfl) (by kernel_rfl) (fun _ _ _ h => h) (.inr ⟨by rfl, rfl⟩) hH ?_
          (try simp only [List.getElem_toArray, List.getElem_cons_zero, List.getElem_cons_succ, Act.put, List.setIfInBounds_toArray, List.set_cons_zero, List.set_cons_succ])
          refine wpAnyH_take (i := 7) (v := undef) rfl (by kernel_rfl) (by kernel_rfl) (by kernel_rfl) (fun _ _ _ h => h) (.inr ⟨by rfl, rfl⟩) hH ?_
          (try simp only [List.getElem_toArray, List.getElem_cons_zero, List.getElem_cons_succ, Act.put, List.setIfInBounds_toArray, List.set_cons_zero, List.set_cons_succ])
          refine wpAnyH_take (i := 8) (v := undef) rfl (by kernel_rfl) (by kernel_rfl) (by kernel_rfl) (fun _ _ _ h => h) (.inr ⟨by rfl, rfl⟩) hH ?_
          (try simp only [List.getElem_toArray, List.getElem_cons_zero, List.getElem_cons_succ, Act.put, List.setIfInBounds_toArray, List.set_cons_zero, List.set_cons_succ])
          refine wpAnyH_take (i := 9) (v := undef) rfl (by kernel_rfl) (by kernel_rfl) (by kernel_rfl) (fun _ _ _ h => h) (.inr ⟨by rfl, rfl⟩) hH ?_
          (try simp only [List.getElem_toArray, List.getElem_cons_zero, List.getElem_cons_succ, Act.put, List.setIfInBounds_toArray, List.set_cons_zero, List.set_cons_succ])
          refine wpAnyH_take (i := 10) (v := undef) rfl (by kernel_rfl) (by kernel_rfl) (by kernel_rfl) (fun _ _ _ h => h) (.inr ⟨by rfl, rfl⟩) hH ?_
          (try simp only [List.getElem_toArray, List.getElem_cons_zero, List.getElem_cons_succ, Act.put, List.setIfInBounds_toArray, List.set_cons_zero, List.set_cons_succ])
          refine wpAnyH_take (i := 11) (v := undef) rfl (by kernel_rfl) (by kernel_rfl) (by kernel_rfl) (fun _ _ _ h => h) (.inr ⟨by rfl, rfl⟩) hH ?_
          (try simp only [List.getElem_toArray, List.getElem_cons_zero, List.getElem_cons_succ, Act.put, List.setIfInBounds_toArray, List.set_cons_zero, List.set_cons_succ])
          refine wpAnyH_take (i := 12) (v := undef) rfl (by kernel_rfl) (by kernel_rfl) (by kernel_rfl) (fun _ _ _ h => h) (.inr ⟨by rfl, rfl⟩) hH ?_
          (try simp only [List.getElem_toArray, List.getElem_cons_zero, List.getElem_cons_succ, Act.put, List.setIfInBounds_toArray, List.set_cons_zero, List.set_cons_succ])
          refine wpAnyH_take (i := 13) (v := .bool true) rfl (by kernel_rfl) (by kernel_rfl) (by kernel_rfl) (fun _ _ _ h => h) (.inl ⟨by rfl, fun _ _ => by kernel_rfl⟩) hH ?_
          (try simp only [List.getElem_toArray, List.getElem_cons_zero, List.getElem_cons_succ, Act.put, List.setIfInBounds_toArray, List.set_cons_zero, List.set_cons_succ])
          refine wpAnyH_take (i := 14) (v := .bool true) rfl (by kernel_rfl) (by kernel_rfl) (by kernel_rfl) (fun _ _ _ h => h) (.inl ⟨by rfl, fun _ _ => by kernel_rfl⟩) hH ?_
          (try simp only [List.getElem_toArray, List.getElem_cons_zero, List.getElem_cons_succ, Act.put, List.setIfInBounds_toArray, List.set_cons_zero, List.set_cons_succ])
          refine wpAnyH_done (by kernel_rfl) ?_ _
          go_wp2_with fail
          go_ret
          exact ⟨rfl, Below.trans (b := wr.drew) (below_drewN HBF.out 1) (Below.refl _ _)⟩
        · have hall := HF.out (by first | trivial | rfl)
          rw [List.take_of_length_le (by rw [HLL.out]; exact Nat.le_refl _)] at hall
          have hend := full_end HCB.out hall HWR.out HZ.out HBX.out
          have HE1 := Lib.hid hend.1
          have HE2 := Lib.hid hend.2.1
          have HE3 : Hid (decide (((m : Nat) : Int) ≤ 2) = true) := decide_eq_true (by have h1 := hend.2.2; have h2 := HML.out; omega)
          clear hall hend
          go_upto_region 19 with fail
          refine wp_region_held_drew (S := fun w' => Below wr.heap.size wr w') (by kernel_rfl) (below_drewN (Below.refl _ _) 1) (fun hH => ?_)
          refine wpAnyH_take (i := 0) (v := .bool true) rfl (by kernel_rfl) (by kernel_rfl) (by kernel_rfl) (fun _ _ _ h => h) (.inl ⟨by rfl, fun _ _ => by kernel_rfl⟩) hH ?_
          (try simp only [List.getElem_toArray, List.getElem_cons_zero, Act.put, List.setIfInBounds_toArray, List.set_cons_zero, List.set_cons_succ])
          refine wpAnyH_take (i := 1) (v := .bool false) rfl (by kernel_rfl) (by kernel_rfl) (by kernel_rfl) (fun _ _ _ h => h) (.inl ⟨by rfl, fun _ _ => by kernel_rfl⟩) hH ?_
          (try simp only [List.getElem_toArray, List.getElem_cons_zero, List.getElem_cons_succ, Act.put, List.setIfInBounds_toArray, List.set_cons_zero, List.set_cons_succ])
          refine wpAnyH_take (i := 2) (v := .bool false) rfl (by kernel_rfl) (by kernel_rfl) (by kernel_rfl) (fun _ _ _ h => h) (.inl ⟨by rfl, fun _ _ => by kernel_rfl⟩) hH ?_
          (try simp only [List.getElem_toArray, List.getElem_cons_zero, List.getElem_cons_succ, Act.put, List.setIfInBounds_toArray, List.set_cons_zero, List.set_cons_succ])
          refine wpAnyH_take (i := 3) (v := hitV (spN q ns z)) rfl (by kernel_rfl) (by kernel_rfl) (by kernel_rfl) (fun _ _ _ h => h) (yieldsIf_loadP (by rfl) _ rfl rfl (fun _ s => hit_load (x := spN q ns z) (HK10.out.below (HBT.out.trans (Below.mono s HBT.out.size)) HK10.out.lt))) hH ?_
          (try simp only [List.getElem_toArray, List.getElem_cons_zero, List.getElem_cons_succ, Act.put, List.setIfInBounds_toArray, List.set_cons_zero, List.set_cons_succ])
          refine wpAnyH_take (i := 4) (v := .slice (some ⟨gb, 0, none⟩) 1 cb) rfl (by kernel_rfl) (by kernel_rfl) (by kernel_rfl) (fun _ _ _ h => h) (.inl ⟨by rfl, fun _ _ => by kernel_rfl⟩) hH ?_
          (try simp only [List.getElem_toArray, List.getElem_cons_zero, List.getElem_cons_succ, Act.put, List.setIfInBounds_toArray, List.set_cons_zero, List.set_cons_succ])
          refine wpAnyH_take (i := 5) (v := .pointer (some ⟨gb, 0 + 0 * 2, none⟩)) rfl (by kernel_rfl) (by kernel_rfl) (by kernel_rfl) (fun _ _ _ h => h) (yieldsIf_indexS (k := 0) Try.underlying26 sizeHit (by rfl) _ _ rfl rfl rfl (by decide)) hH ?_
          (try simp only [List.getElem_toArray, List.getElem_cons_zero, List.getElem_cons_succ, Act.put, List.setIfInBounds_toArray, List.set_cons_zero, List.set_cons_succ])
          refine wpAnyH_take (i := 6) (v := hitV x) rfl (by kernel_rfl) (by kernel_rfl) (by kernel_rfl) (fun _ _ _ h => h) (yieldsIf_loadP (by rfl) _ rfl rfl (fun _ s => load_htB (HBR10.out _ (HBT.out.trans (Below.mono s HBT.out.size))))) hH ?_
          (try simp only [List.getElem_toArray, List.getElem_cons_zero, List.getElem_cons_succ, Act.put, List.setIfInBounds_toArray, List.set_cons_zero, List.set_cons_succ])
          refine wpAnyH_take (i := 7) (v := .bool true) rfl (by kernel_rfl) (by kernel_rfl) (by kernel_rfl) (fun _ _ _ h => h) (yieldsIf_eqlH HE1.out HE2.out (by rfl) _ _ rfl rfl rfl) hH ?_
          (try simp only [List.getElem_toArray, List.getElem_cons_zero, List.getElem_cons_succ, Act.put, List.setIfInBounds_toArray, List.set_cons_zero, List.set_cons_succ])
          refine wpAnyH_take (i := 8) (v := .bool true) rfl (by kernel_rfl) (by kernel_rfl) (by kernel_rfl) (fun _ _ _ h => h) (.inl ⟨by rfl, fun _ _ => by kernel_rfl⟩) hH ?_
          (try simp only [List.getElem_toArray, List.getElem_cons_zero, List.getElem_cons_succ, Act.put, List.setIfInBounds_toArray, List.set_cons_zero, List.set_cons_succ])
          refine wpAnyH_take (i := 9) (v := .slice (some ⟨g9, 0, none⟩) m c9) rfl (by kernel_rfl) (by kernel_rfl) (by kernel_rfl) (fun _ _ _ h => h) (.inl ⟨by rfl, fun _ _ => by kernel_rfl⟩) hH ?_
          (try simp only [List.getElem_toArray, List.getElem_cons_zero, List.getElem_cons_succ, Act.put, List.setIfInBounds_toArray, List.set_cons_zero, List.set_cons_succ])
          refine wpAnyH_take (i := 10) (v := .int .i64 m) rfl (by kernel_rfl) (by kernel_rfl) (by kernel_rfl) (fun _ _ _ h => h) (.inl ⟨by rfl, fun _ _ => by kernel_rfl⟩) hH ?_
          (try simp only [List.getElem_toArray, List.getElem_cons_zero, List.getElem_cons_succ, Act.put, List.setIfInBounds_toArray, List.set_cons_zero, List.set_cons_succ])
          refine wpAnyH_take (i := 11) (v := .bool true) rfl (by kernel_rfl) (by kernel_rfl) (by kernel_rfl) (fun _ _ _ h => h) (yieldsIf_leqG HE3.out (by rfl) _ _ rfl rfl rfl) hH ?_
          (try simp only [List.getElem_toArray, List.getElem_cons_zero, List.getElem_cons_succ, Act.put, List.setIfInBounds_toArray, List.set_cons_zero, List.set_cons_succ])
          refine wpAnyH_take (i := 12) (v := .bool true) rfl (by kernel_rfl) (by kernel_rfl) (by kernel_rfl) (fun _ _ _ h => h) (.inl ⟨by rfl, fun _ _ => by kernel_rfl⟩) hH ?_
          (try simp only [List.getElem_toArray, List.getElem_cons_zero, List.getElem_cons_succ, Act.put, List.setIfInBounds_toArray, List.set_cons_zero, List.set_cons_succ])
          refine wpAnyH_take (i := 13) (v := .bool true) rfl (by kernel_rfl) (by kernel_rfl) (by kernel_rfl) (fun _ _ _ h => h) (.inl ⟨by rfl, fun _ _ => by kernel_rfl⟩) hH ?_
          (try simp only [List.getElem_toArray, List.getElem_cons_zero, List.getElem_cons_succ, Act.put, List.setIfInBounds_toArray, List.set_cons_zero, List.set_cons_succ])
          refine wpAnyH_take (i := 14) (v := .bool true) rfl (by kernel_rfl) (by kernel_rfl) (by kernel_rfl) (fun _ _ _ h => h) (.inl ⟨by rfl, fun _ _ => by kernel_rfl⟩) hH ?_
          (try simp only [List.getElem_toArray, List.getElem_cons_zero, List.getElem_cons_succ, Act.put, List.setIfInBounds_toArray, List.set_cons_zero, List.set_cons_succ])
          refine wpAnyH_done (by kernel_rfl) ?_ _
          go_wp2_with fail
          go_ret
          exact ⟨rfl, Below.trans (b := wr.drew) (below_drewN HBF.out 1) (Below.refl _ _)⟩
  · have h1 : Below w7.heap.size w7 (w7.drew.alloc (.cells hc0 29)) := hH.alloc hH.size _
    refine wpOp_value (.pointer (some ⟨w7.drew.heap.size, 0, none⟩)) (by rfl) (by kernel_rfl) (w' := w7.drew.alloc (.cells hc0 29)) (by kernel_rfl) ⟨h1, ?_⟩
    (try simp only [List.getElem_toArray, List.getElem_cons_zero, List.getElem_cons_succ, Act.put, List.setIfInBounds_toArray, List.set_cons_zero, List.set_cons_succ])
    refine wpAnyH_call 8 14 #[.agg #[.slice A n c, .int .i64 en, .int .i64 tp], q.v, .int .i64 ((z : Nat) : Int)] _ (by kernel_rfl) (by rfl) (by kernel_rfl) (by kernel_rfl) (HSPT.out _ h1) ?_
    rintro e Z1 ⟨rfl, hb1⟩
    have h2 : Below w7.heap.size w7 Z1 := h1.trans (hb1.mono h1.size)
    refine ⟨_, rfl, h2, ?_⟩
    (try simp only [List.getElem_toArray, List.getElem_cons_zero, List.getElem_cons_succ, Act.put, List.setIfInBounds_toArray, List.set_cons_zero, List.set_cons_succ])
    refine wpAnyH_take (i := 9) (v := hitV (spN q ns z)) rfl (by kernel_rfl) (by kernel_rfl) (by kernel_rfl) (fun _ _ _ h => h) (.inl ⟨by rfl, fun _ _ => by kernel_rfl⟩) h2 ?_
    (try simp only [List.getElem_toArray, List.getElem_cons_zero, List.getElem_cons_succ, Act.put, List.setIfInBounds_toArray, List.set_cons_zero, List.set_cons_succ])
    have hk0 : Blk Z1 w7.drew.heap.size 29 hc0 := (Blk.new w7.drew 29 hc0).below hb1 (Blk.new w7.drew 29 hc0).lt
    have SR : (Instr.storeAt 29 (.pointer (some ⟨w7.drew.heap.size, 0, none⟩)) (hitV (spN q ns z))).run Try.prog Z1 = .ok () _ := row_store hk0 (hitC (spN q ns z)) rfl (by kernel_rfl) (by simp [hitC, Value.oneCell'])
    obtain ⟨V3, hV3⟩ : ∃ y, Z1.setCells w7.drew.heap.size 0 (hitC (spN q ns z)).toList = y := ⟨_, rfl⟩
    rw [hV3] at SR
    have hkv : Blk V3 w7.drew.heap.size 29 (hitC (spN q ns z)) := by rw [← hV3]; exact hk0.put _ rfl
    have h3 : Below w7.heap.size w7 V3 := by
      rw [← hV3]
      exact h2.trans ((Tch.setCells (S := fun k => k = w7.drew.heap.size) rfl _ _ Z1 (Tch.refl _ Z1)).below h2.size (fun k hk => by rw [hk]; exact hH.size))
    refine wpAnyH_store 11 _ _ _ (by kernel_rfl) (by rfl) (by kernel_rfl) (by rfl) (by rfl) (by rfl) SR h3 ?_
    (try simp only [List.getElem_toArray, List.getElem_cons_zero, List.getElem_cons_succ, Act.put])
    refine wpAnyH_done (by kernel_rfl) ?_ _
    obtain ⟨xb, hxb⟩ : ∃ xb, w7.drew.heap.size = xb := ⟨_, rfl⟩
    rw [hxb] at hkv
    (try rw [hxb])
    clear SR hV3 h1 h2 hb1 hxb hk0
    have HB8 : Hid (Below w1.heap.size w1 V3) := HB7.out.trans (Below.mono h3 HB7.out.size)
    have HK8 : Hid (Blk V3 xb 29 (hitC (spN q ns z))) := hkv
    have HBR : Hid (∀ W', Below V3.heap.size V3 W' → W'.rangeAt gb (0 + 0 * 2) (htL x)) := by
      intro W' hb
      obtain ⟨b, o, y, e, hbl, hy, hr⟩ := HX7.out.at_ (show 0 < 1 by decide)
      injection e with e; injection e with e1 e2 _
      subst e1 e2
      obtain rfl : y = x := by simpa using hy.symm
      exact rangeAt_keep hr fun j => (h3.trans (Below.mono hb h3.size)).cell (p := ⟨gb, j, none⟩) hbl
    clear hH
    go_upto_region 10 with fail
    refine wp_region_held_drew (S := fun w' => Below V3.heap.size V3 w') (by kernel_rfl) (below_drewN (Below.refl _ _) 1) (fun hH => ?_)
    refine wpAnyH_take (i := 0) (v := hitV (spN q ns z)) rfl (by kernel_rfl) (by kernel_rfl) (by kernel_rfl) (fun _ _ _ h => h) (yieldsIf_loadP (by rfl) _ rfl rfl (fun _ s => hit_load (x := spN q ns z) (HK8.out.below s HK8.out.lt))) hH ?_
    (try simp only [List.getElem_toArray, List.getElem_cons_zero, Act.put, List.setIfInBounds_toArray, List.set_cons_zero, List.set_cons_succ])
    refine wpAnyH_take (i := 1) (v := .slice (some ⟨gb, 0, none⟩) 1 cb) rfl (by kernel_rfl) (by kernel_rfl) (by kernel_rfl) (fun _ _ _ h => h) (.inl ⟨by rfl, fun _ _ => by kernel_rfl⟩) hH ?_
    (try simp only [List.getElem_toArray, List.getElem_cons_zero, List.getElem_cons_succ, Act.put, List.setIfInBounds_toArray, List.set_cons_zero, List.set_cons_succ])
    refine wpAnyH_take (i := 2) (v := .pointer (some ⟨gb, 0 + 0 * 2, none⟩)) rfl (by kernel_rfl) (by kernel_rfl) (by kernel_rfl) (fun _ _ _ h => h) (yieldsIf_indexS (k := 0) Try.underlying26 sizeHit (by rfl) _ _ rfl rfl rfl (by decide)) hH ?_
    (try simp only [List.getElem_toArray, List.getElem_cons_zero, List.getElem_cons_succ, Act.put, List.setIfInBounds_toArray, List.set_cons_zero, List.set_cons_succ])
    refine wpAnyH_take (i := 3) (v := hitV x) rfl (by kernel_rfl) (by kernel_rfl) (by kernel_rfl) (fun _ _ _ h => h) (yieldsIf_loadP (by rfl) _ rfl rfl (fun _ s => load_htB (HBR.out _ s))) hH ?_
    (try simp only [List.getElem_toArray, List.getElem_cons_zero, List.getElem_cons_succ, Act.put, List.setIfInBounds_toArray, List.set_cons_zero, List.set_cons_succ])
    refine wpAnyH_call 4 9 #[hitV (spN q ns z), hitV x] _ (by kernel_rfl) (by rfl) (by kernel_rfl) (by kernel_rfl) (rank_hit (spN q ns z) x _) ?_
    rintro e Z4 ⟨rfl, g4⟩
    rw [show decide (ordI (spN q ns z) x < 0) = false from decide_eq_false (HBX.out.le z HZT.out)]
    have h4 := hH.trans (g4.below.mono hH.size)
    refine ⟨_, rfl, h4, ?_⟩
    (try simp only [List.getElem_toArray, List.getElem_cons_zero, List.getElem_cons_succ, Act.put, List.setIfInBounds_toArray, List.set_cons_zero, List.set_cons_succ])
    refine wpAnyH_done (by kernel_rfl) ?_ _
    have HB10 : Hid (Below w1.heap.size w1 Z4) := HB8.out.trans (Below.mono h4 HB8.out.size)
    have HK10 : Hid (Blk Z4 xb 29 (hitC (spN q ns z))) := HK8.out.below h4 HK8.out.lt
    have HBR10 : Hid (∀ W', Below Z4.heap.size Z4 W' → W'.rangeAt gb (0 + 0 * 2) (htL x)) := fun W' hb => HBR.out W' (h4.trans (Below.mono hb h4.size))
    clear h4 g4
    obtain ⟨z0, z1, z2⟩ := HPC.out Z4 HB10.out
    have HLI := pl_live A n c ns en tp Z4 (HGT.out Z4 HB10.out)
    unfold pgL at HLI
    replace HLI := Lib.hid HLI
    go_wp2_with (go_at_call 15; (with_reducible refine HLI.out.mono ?_); rintro e w9 ⟨AL, ml, cl, rfl, ho, hb⟩; clear HLI; have HOL := Lib.hid ho; have HBL := Lib.hid hb; clear ho hb)
    have HLL : Hid ((liveI ns).length = ml) := HOL.out.len
    have hml : ml ≤ 20 := by
      have h1 : (liveI ns).length ≤ ns.length := lvI_le ns _
      have h2 := HN20.out
      rw [HLL.out, HNL.out] at h1
      omega
    have HNT : Hid (∀ (W : World) (i : Nat), Below w1.heap.size w1 W → Calls Try.prog 16 #[.agg #[.slice A n c, .int .i64 en, .int .i64 tp], .int .i64 ((i : Nat) : Int), .int .i64 0] W (RetI (nearI ns i 0) W)) := fun W i hb => pl_near A n c ns en tp i 0 W (HGT.out W hb)
    go_loopw [69, 12] (fun i v wr => ∃ (t : Nat) (b : Bool), t ≤ ml ∧ i = .int .i64 (t : Nat) ∧ v = .bool b ∧ Hid (b = true → ∀ y ∈ (liveI ns).take t, (nearI ns y 0).length + 1 = (liveI ns).length) ∧ Hid (Below Z4.heap.size Z4 wr) ∧ Hid (Below w9.heap.size w9 wr)) (fun i _ _ => ml - (intOf i).toNat)
    case atStart => exact ⟨0, true, Nat.zero_le _, rfl, rfl, (show true = true → ∀ y ∈ (liveI ns).take 0, _ from fun _ y hy => by simp at hy), HBL.out, Below.refl _ _⟩
    case round =>
      obtain ⟨t, b, ht, rfl, rfl, HF, HBT, HB9⟩ := hrel
      by_cases hlt : t < ml
      · obtain ⟨b2, o2, rfl, hb2, hc2⟩ := Rd.atI (Rd.below HOL.out.rd HB9.out) hlt
        obtain ⟨y, hy⟩ : ∃ y, ig (liveI ns) t = y := ⟨_, rfl⟩
        rw [hy] at hc2
        have hly : (liveI ns)[t]? = some y := by
          rw [← hy, ig, List.getD_eq_getElem?_getD, List.getElem?_eq_getElem (by rw [HLL.out]; exact hlt)]
          rfl
        obtain ⟨i, rfl, hi⟩ := thB_nat_iff.1 (mem_liveIG.1 (List.mem_of_getElem? hly))
        have HLY := Lib.hid hly
        have HLT := Lib.hid hlt
        have HBW : Hid (Below w1.heap.size w1 wr) := HB10.out.trans (Below.mono HBT.out HB10.out.size)
        obtain ⟨y0, y1, y2⟩ := HPC.out wr HBW.out
        have e1 : wrap64 (((ml : Nat) : Int) - 1) = ((ml - 1 : Nat) : Int) := by unfold wrap64; omega
        clear hy hly hb2
        cases b
        · go_wp2_with fail
          go_roundw
          case rel => exact ⟨t + 1, false, HLT.out, by go_num, rfl, (show false = true → _ from fun e => by cases e), HBT.out, HB9.out⟩
          case measure => have := HLT.out; simp [intOf]; omega
        · have HNR := Lib.hid (HNT.out wr i HBW.out)
          by_cases hq : (nearI ns i 0).length + 1 = ml
          · have hq1 : (nearI ns i 0).length = ml - 1 := by omega
            have HQ := Lib.hid hq
            clear hq
            go_wp2_with (go_at_call 16; (refine HNR.out.mono ?_); rintro e wa ⟨AN, mn, cn, rfl, ho, hb⟩; clear HNR; have hmn0 : mn = ml - 1 := (by have := ho.len; omega); subst hmn0; have HBa := Lib.hid hb; clear ho hb)
            go_roundw
            case rel =>
              refine ⟨t + 1, true, HLT.out, by go_num, (by have h9 : ((((ml - 1 : Nat) : Int)) == (ml : Int) - 1) = true := (by have := HLT.out; rw [beq_iff_eq]; omega); rw [h9]), ?_, HBT.out.trans (HBa.out.mono HBT.out.size), HB9.out.trans (HBa.out.mono HB9.out.size)⟩
              show true = true → ∀ y ∈ (liveI ns).take (t + 1), _
              intro _ y hy
              rw [take_stepX HLY.out] at hy
              rcases List.mem_append.1 hy with hy | hy
              · exact HF.out (by first | trivial | rfl) y hy
              · obtain rfl : y = _ := by simpa using hy
                rw [HLL.out]
                exact HQ.out
            case measure => have := HLT.out; simp [intOf]; omega
          · have hq1 : decide ((nearI ns i 0).length = ml - 1) = false := decide_eq_false (by omega)
            have HQ := Lib.hid hq1
            clear hq hq1
            go_wp2_with (go_at_call 16; (refine HNR.out.mono ?_); rintro e wa ⟨AN, mn, cn, rfl, ho, hb⟩; clear HNR; have tq : decide (mn = ml - 1) = false := (by have := ho.len; rw [← this]; exact HQ.out); have HBa := Lib.hid hb; clear ho hb)
            go_roundw
            case rel => exact ⟨t + 1, false, HLT.out, by go_num, (by have h9 : (((mn : Nat) : Int) == (ml : Int) - 1) = false := (by have h7 := HLT.out; have h8 := of_decide_eq_false tq; rw [beq_eq_false_iff_ne]; omega); rw [h9]), (show false = true → _ from fun e => by cases e), HBT.out.trans (HBa.out.mono HBT.out.size), HB9.out.trans (HBa.out.mono HB9.out.size)⟩
            case measure => have := HLT.out; simp [intOf]; omega
      · obtain rfl : t = ml := by omega
        clear hlt ht
        have HBF : Hid (Below w.heap.size w wr) := HB1.out.trans (Below.mono (HB10.out.trans (Below.mono HBT.out HB10.out.size)) HB1.out.size)
        cases b
        · go_upto_region 19 with fail
          refine wp_region_held_drew (S := fun w' => Below wr.heap.size wr w') (by kernel_rfl) (below_drewN (Below.refl _ _) 1) (fun hH => ?_)
          refine wpAnyH_take (i := 0) (v := .bool false) rfl (by kernel_rfl) (by kernel_rfl) (by kernel_rfl) (fun _ _ _ h => h) (.inl ⟨by rfl, fun _ _ => by kernel_rfl⟩) hH ?_
          (try simp only [List.getElem_toArray, List.getElem_cons_zero, Act.put, List.setIfInBounds_toArray, List.set_cons_zero, List.set_cons_succ])
          refine wpAnyH_take (i := 1) (v := .bool true) rfl (by kernel_rfl) (by kernel_rfl) (by kernel_rfl) (fun _ _ _ h => h) (.inl ⟨by rfl, fun _ _ => by kernel_rfl⟩) hH ?_
          (try simp only [List.getElem_toArray, List.getElem_cons_zero, List.getElem_cons_succ, Act.put, List.setIfInBounds_toArray, List.set_cons_zero, List.set_cons_succ])
          refine wpAnyH_take (i := 2) (v := .bool true) rfl (by kernel_rfl) (by kernel_rfl) (by kernel_rfl) (fun _ _ _ h => h) (.inl ⟨by rfl, fun _ _ => by kernel_rfl⟩) hH ?_
          (try simp only [List.getElem_toArray, List.getElem_cons_zero, List.getElem_cons_succ, Act.put, List.setIfInBounds_toArray, List.set_cons_zero, List.set_cons_succ])
          refine wpAnyH_take (i := 3) (v := undef) rfl (by kernel_rfl) (by kernel_rfl) (by kernel_rfl) (fun _ _ _ h => h) (.inr ⟨by rfl, rfl⟩) hH ?_
          (try simp only [List.getElem_toArray, List.getElem_cons_zero, List.getElem_cons_succ, Act.put, List.setIfInBounds_toArray, List.set_cons_zero, List.set_cons_succ])
          refine wpAnyH_take (i := 4) (v := undef) rfl (by kernel_rfl) (by kernel_rfl) (by kernel_rfl) (fun _ _ _ h => h) (.inr ⟨by rfl, rfl⟩) hH ?_
          (try simp only [List.getElem_toArray, List.getElem_cons_zero, List.getElem_cons_succ, Act.put, List.setIfInBounds_toArray, List.set_cons_zero, List.set_cons_succ])
          refine wpAnyH_take (i := 5) (v := undef) rfl (by kernel_rfl) (by kernel_rfl) (by kernel_rfl) (fun _ _ _ h => h) (.inr ⟨by rfl, rfl⟩) hH ?_
          (try simp only [List.getElem_toArray, List.getElem_cons_zero, List.getElem_cons_succ, Act.put, List.setIfInBounds_toArray, List.set_cons_zero, List.set_cons_succ])
          refine wpAnyH_take (i := 6) (v := undef) rfl (by kernel_rfl) (by kernel_rfl) (by kernel_rfl) (fun _ _ _ h => h) (.inr ⟨by rfl, rfl⟩) hH ?_
          (try simp only [List.getElem_toArray, List.getElem_cons_zero, List.getElem_cons_succ, Act.put, List.setIfInBounds_toArray, List.set_cons_zero, List.set_cons_succ])
          refine wpAnyH_take (i := 7) (v := undef) rfl (by kernel_rfl) (by kernel_rfl) (by kernel_rfl) (fun _ _ _ h => h) (.inr ⟨by rfl, rfl⟩) hH ?_
          (try simp only [List.getElem_toArray, List.getElem_cons_zero, List.getElem_cons_succ, Act.put, List.setIfInBounds_toArray, List.set_cons_zero, List.set_cons_succ])
          refine wpAnyH_take (i := 8) (v := undef) rfl (by kernel_rfl) (by kernel_rfl) (by kernel_rfl) (fun _ _ _ h => h) (.inr ⟨by rfl, rfl⟩) hH ?_
          (try simp only [List.getElem_toArray, List.getElem_cons_zero, List.getElem_cons_succ, Act.put, List.setIfInBounds_toArray, List.set_cons_zero, List.set_cons_succ])
          refine wpAnyH_take (i := 9) (v := undef) rfl (by kernel_rfl) (by kernel_rfl) (by kernel_rfl) (fun _ _ _ h => h) (.inr ⟨by rfl, rfl⟩) hH ?_
          (try simp only [List.getElem_toArray, List.getElem_cons_zero, List.getElem_cons_succ, Act.put, List.setIfInBounds_toArray, List.set_cons_zero, List.set_cons_succ])
          refine wpAnyH_take (i := 10) (v := undef) rfl (by kernel_rfl) (by kernel_rfl) (by kernel_rfl) (fun _ _ _ h => h) (.inr ⟨by rfl, rfl⟩) hH ?_
          (try simp only [List.getElem_toArray, List.getElem_cons_zero, List.getElem_cons_succ, Act.put, List.setIfInBounds_toArray, List.set_cons_zero, List.set_cons_succ])
          refine wpAnyH_take (i := 11) (v := undef) rfl (by kernel_rfl) (by kernel_rfl) (by kernel_rfl) (fun _ _ _ h => h) (.inr ⟨by rfl, rfl⟩) hH ?_
          (try simp only [List.getElem_toArray, List.getElem_cons_zero, List.getElem_cons_succ, Act.put, List.setIfInBounds_toArray, List.set_cons_zero, List.set_cons_succ])
          refine wpAnyH_take (i := 12) (v := undef) rfl (by kernel_rfl) (by kernel_rfl) (by kernel_rfl) (fun _ _ _ h => h) (.inr ⟨by rfl, rfl⟩) hH ?_
          (try simp only [List.getElem_toArray, List.getElem_cons_zero, List.getElem_cons_succ, Act.put, List.setIfInBounds_toArray, List.set_cons_zero, List.set_cons_succ])
          refine wpAnyH_take (i := 13) (v := .bool true) rfl (by kernel_rfl) (by kernel_rfl) (by kernel_rfl) (fun _ _ _ h => h) (.inl ⟨by rfl, fun _ _ => by kernel_rfl⟩) hH ?_
          (try simp only [List.getElem_toArray, List.getElem_cons_zero, List.getElem_cons_succ, Act.put, List.setIfInBounds_toArray, List.set_cons_zero, List.set_cons_succ])
          refine wpAnyH_take (i := 14) (v := .bool true) rfl (by kernel_rfl) (by kernel_rfl) (by kernel_rfl) (fun _ _ _ h => h) (.inl ⟨by rfl, fun _ _ => by kernel_rfl⟩) hH ?_
          (try simp only [List.getElem_toArray, List.getElem_cons_zero, List.getElem_cons_succ, Act.put, List.setIfInBounds_toArray, List.set_cons_zero, List.set_cons_succ])
          refine wpAnyH_done (by kernel_rfl) ?_ _
          go_wp2_with fail
          go_ret
          exact ⟨rfl, Below.trans (b := wr.drew) (below_drewN HBF.out 1) (Below.refl _ _)⟩
        · have hall := HF.out (by first | trivial | rfl)
          rw [List.take_of_length_le (by rw [HLL.out]; exact Nat.le_refl _)] at hall
          have hend := full_end HCB.out hall HWR.out HZ.out HBX.out
          have HE1 := Lib.hid hend.1
          have HE2 := Lib.hid hend.2.1
          have HE3 : Hid (decide (((m : Nat) : Int) ≤ 2) = true) := decide_eq_true (by have h1 := hend.2.2; have h2 := HML.out; omega)
          clear hall hend
          go_upto_region 19 with fail
          refine wp_region_held_drew (S := fun w' => Below wr.heap.size wr w') (by kernel_rfl) (below_drewN (Below.refl _ _) 1) (fun hH => ?_)
          refine wpAnyH_take (i := 0) (v := .bool true) rfl (by kernel_rfl) (by kernel_rfl) (by kernel_rfl) (fun _ _ _ h => h) (.inl ⟨by rfl, fun _ _ => by kernel_rfl⟩) hH ?_
          (try simp only [List.getElem_toArray, List.getElem_cons_zero, Act.put, List.setIfInBounds_toArray, List.set_cons_zero, List.set_cons_succ])
          refine wpAnyH_take (i := 1) (v := .bool false) rfl (by kernel_rfl) (by kernel_rfl) (by kernel_rfl) (fun _ _ _ h => h) (.inl ⟨by rfl, fun _ _ => by kernel_rfl⟩) hH ?_
          (try simp only [List.getElem_toArray, List.getElem_cons_zero, List.getElem_cons_succ, Act.put, List.setIfInBounds_toArray, List.set_cons_zero, List.set_cons_succ])
          refine wpAnyH_take (i := 2) (v := .bool false) rfl (by kernel_rfl) (by kernel_rfl) (by kernel_rfl) (fun _ _ _ h => h) (.inl ⟨by rfl, fun _ _ => by kernel_rfl⟩) hH ?_
          (try simp only [List.getElem_toArray, List.getElem_cons_zero, List.getElem_cons_succ, Act.put, List.setIfInBounds_toArray, List.set_cons_zero, List.set_cons_succ])
          refine wpAnyH_take (i := 3) (v := hitV (spN q ns z)) rfl (by kernel_rfl) (by kernel_rfl) (by kernel_rfl) (fun _ _ _ h => h) (yieldsIf_loadP (by rfl) _ rfl rfl (fun _ s => hit_load (x := spN q ns z) (HK10.out.below (HBT.out.trans (Below.mono s HBT.out.size)) HK10.out.lt))) hH ?_
          (try simp only [List.getElem_toArray, List.getElem_cons_zero, List.getElem_cons_succ, Act.put, List.setIfInBounds_toArray, List.set_cons_zero, List.set_cons_succ])
          refine wpAnyH_take (i := 4) (v := .slice (some ⟨gb, 0, none⟩) 1 cb) rfl (by kernel_rfl) (by kernel_rfl) (by kernel_rfl) (fun _ _ _ h => h) (.inl ⟨by rfl, fun _ _ => by kernel_rfl⟩) hH ?_
          (try simp only [List.getElem_toArray, List.getElem_cons_zero, List.getElem_cons_succ, Act.put, List.setIfInBounds_toArray, List.set_cons_zero, List.set_cons_succ])
          refine wpAnyH_take (i := 5) (v := .pointer (some ⟨gb, 0 + 0 * 2, none⟩)) rfl (by kernel_rfl) (by kernel_rfl) (by kernel_rfl) (fun _ _ _ h => h) (yieldsIf_indexS (k := 0) Try.underlying26 sizeHit (by rfl) _ _ rfl rfl rfl (by decide)) hH ?_
          (try simp only [List.getElem_toArray, List.getElem_cons_zero, List.getElem_cons_succ, Act.put, List.setIfInBounds_toArray, List.set_cons_zero, List.set_cons_succ])
          refine wpAnyH_take (i := 6) (v := hitV x) rfl (by kernel_rfl) (by kernel_rfl) (by kernel_rfl) (fun _ _ _ h => h) (yieldsIf_loadP (by rfl) _ rfl rfl (fun _ s => load_htB (HBR10.out _ (HBT.out.trans (Below.mono s HBT.out.size))))) hH ?_
          (try simp only [List.getElem_toArray, List.getElem_cons_zero, List.getElem_cons_succ, Act.put, List.setIfInBounds_toArray, List.set_cons_zero, List.set_cons_succ])
          refine wpAnyH_take (i := 7) (v := .bool true) rfl (by kernel_rfl) (by kernel_rfl) (by kernel_rfl) (fun _ _ _ h => h) (yieldsIf_eqlH HE1.out HE2.out (by rfl) _ _ rfl rfl rfl) hH ?_
          (try simp only [List.getElem_toArray, List.getElem_cons_zero, List.getElem_cons_succ, Act.put, List.setIfInBounds_toArray, List.set_cons_zero, List.set_cons_succ])
          refine wpAnyH_take (i := 8) (v := .bool true) rfl (by kernel_rfl) (by kernel_rfl) (by kernel_rfl) (fun _ _ _ h => h) (.inl ⟨by rfl, fun _ _ => by kernel_rfl⟩) hH ?_
          (try simp only [List.getElem_toArray, List.getElem_cons_zero, List.getElem_cons_succ, Act.put, List.setIfInBounds_toArray, List.set_cons_zero, List.set_cons_succ])
          refine wpAnyH_take (i := 9) (v := .slice (some ⟨g9, 0, none⟩) m c9) rfl (by kernel_rfl) (by kernel_rfl) (by kernel_rfl) (fun _ _ _ h => h) (.inl ⟨by rfl, fun _ _ => by kernel_rfl⟩) hH ?_
          (try simp only [List.getElem_toArray, List.getElem_cons_zero, List.getElem_cons_succ, Act.put, List.setIfInBounds_toArray, List.set_cons_zero, List.set_cons_succ])
          refine wpAnyH_take (i := 10) (v := .int .i64 m) rfl (by kernel_rfl) (by kernel_rfl) (by kernel_rfl) (fun _ _ _ h => h) (.inl ⟨by rfl, fun _ _ => by kernel_rfl⟩) hH ?_
          (try simp only [List.getElem_toArray, List.getElem_cons_zero, List.getElem_cons_succ, Act.put, List.setIfInBounds_toArray, List.set_cons_zero, List.set_cons_succ])
          refine wpAnyH_take (i := 11) (v := .bool true) rfl (by kernel_rfl) (by kernel_rfl) (by kernel_rfl) (fun _ _ _ h => h) (yieldsIf_leqG HE3.out (by rfl) _ _ rfl rfl rfl) hH ?_
          (try simp only [List.getElem_toArray, List.getElem_cons_zero, List.getElem_cons_succ, Act.put, List.setIfInBounds_toArray, List.set_cons_zero, List.set_cons_succ])
          refine wpAnyH_take (i := 12) (v := .bool true) rfl (by kernel_rfl) (by kernel_rfl) (by kernel_rfl) (fun _ _ _ h => h) (.inl ⟨by rfl, fun _ _ => by kernel_rfl⟩) hH ?_
          (try simp only [List.getElem_toArray, List.getElem_cons_zero, List.getElem_cons_succ, Act.put, List.setIfInBounds_toArray, List.set_cons_zero, List.set_cons_succ])
          refine wpAnyH_take (i := 13) (v := .bool true) rfl (by kernel_rfl) (by kernel_rfl) (by kernel_rfl) (fun _ _ _ h => h) (.inl ⟨by rfl, fun _ _ => by kernel_rfl⟩) hH ?_
          (try simp only [List.getElem_toArray, List.getElem_cons_zero, List.getElem_cons_succ, Act.put, List.setIfInBounds_toArray, List.set_cons_zero, List.set_cons_succ])
          refine wpAnyH_take (i := 14) (v := .bool true) rfl (by kernel_rfl) (by kernel_rfl) (by kernel_rfl) (fun _ _ _ h => h) (.inl ⟨by rfl, fun _ _ => by kernel_rfl⟩) hH ?_
          (try simp only [List.getElem_toArray, List.getElem_cons_zero, List.getElem_cons_succ, Act.put, List.setIfInBounds_toArray, List.set_cons_zero, List.set_cons_succ])
          refine wpAnyH_done (by kernel_rfl) ?_ _
          go_wp2_with fail
          go_ret
          exact ⟨rfl, Below.trans (b := wr.drew) (below_drewN HBF.out 1) (Below.refl _ _)⟩
end Go.Proofs.Ytpbjndjbpihfmaa
