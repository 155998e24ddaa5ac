/- cluster: sums that are held, far, group, Groups, Cost. -/
import Derived.Test.YtlmgfbhgamchgaaTrA
import Derived.Test.YtlmgfbhgamchgaaTrQ
import Derived.Test.YtlmgfbhgamchgaaRow
namespace Go.Proofs.Ytlmgfbhgamchgaa
open Go.RowKit
theorem elemT34 : ∀ w, (sizeOf (Try.prog.elem 34)).run Try.prog w = .ok 1 w := fun w => by kernel_rfl
set_option maxRecDepth 100000 in
theorem cl_add (s u d : Nat) (w : World) (hb : Blk w s 70 #[.int .u64 (u : Nat)]) (hu : u ≤ topN) (hd : d ≤ topN) :
    Calls Try.prog 44 #[.pointer (some ⟨s, 0, none⟩), .int .u64 (d : Nat)] w fun e w' => e = .returned (.tuple #[]) ∧ w' = w.setCell ⟨s, 0, none⟩ (.int .u64 (min (u + d) topN : Nat)) := by
  have hc := hb.cell 0
  have hf := hb.frozen 0
  have ha := fun w => add64_run u d w
  unfold topN at hu hd ⊢
  clear hb
  by_cases h : 18446744073709551616 ≤ u + d
  · rw [show (u + d) / 18446744073709551616 = 1 by omega] at ha
    have HM : Hid ((min (u + d) 18446744073709551615 : Nat) = 18446744073709551615) := by show _ = _; omega
    clear hu hd h
    go_enter Try.func44, Try.ntmps44
    go_wp2
    go_end0
    refine ⟨rfl, ?_⟩
    rw [HM.out]; rfl
  · rw [show (u + d) / 18446744073709551616 = 0 by omega, show (u + d) % 18446744073709551616 = u + d by omega] at ha
    have HM : Hid ((min (u + d) 18446744073709551615 : Nat) = u + d) := by show _ = _; omega
    clear hu hd h
    go_enter Try.func44, Try.ntmps44
    go_wp2
    go_end0
    refine ⟨rfl, ?_⟩
    rw [HM.out, Int.natCast_add]
/-- A number that is told. -/
def RetN (x : Nat) (w : World) (e : Ending) (w' : World) : Prop := e = .returned (.int .u64 (x : Nat)) ∧ Below w.heap.size w w'
theorem bel_boxG (w : World) (o : Obj) : Below w.heap.size w (w.alloc o) := (Below.refl _ w).alloc (Nat.le_refl _) _
set_option maxRecDepth 100000 in
set_option maxHeartbeats 2000000 in
theorem cl_far (A : Option Addr) (n c : Nat) (l : List Vc) (q : Vc) (w : World) (hl : Vcs w w.heap.size A n l) (hn : n ≤ 30) (hq : q.At w w.heap.size) :
    Calls Try.prog 37 #[.slice A n c, q.v] w (RetN (farL (vxs l) q.xs) w) := by
  have HL := Lib.hid hl
  have HQ := Lib.hid hq
  have hln : (vxs l).length = n := by rw [vxs_len, hl.len]
  obtain ⟨f, hf⟩ : ∃ f : List Int → Nat, (fun v => distE v q.xs) = f := ⟨_, rfl⟩
  have HR : Hid (farL (vxs l) q.xs = hK f (vxs l) n) := by show _ = _; unfold farL; rw [hf, ← hln, hK_all]
  have HF : Hid (∀ v, distE v q.xs = f v) := fun v => by rw [← hf]
  have HFT : Hid (∀ v, f v ≤ topN) := fun v => by rw [← hf]; exact dist_top _ _
  obtain ⟨w1, hw1⟩ : ∃ x, w.alloc (.cells #[.int .u64 0] 70) = x := ⟨_, rfl⟩
  have B1 : Hid (Below w.heap.size w w1) := by show Below _ _ _; rw [← hw1]; exact bel_boxG _ _
  have K1 : Hid (Blk w1 w.heap.size 70 #[.int .u64 ((hK f (vxs l) 0 : Nat) : Int)]) := by show Blk _ _ _ _; rw [← hw1]; exact Blk.new _ _ _
  have HLN : Hid ((vxs l).length = n) := hln
  obtain ⟨QA, qn, qc, qx⟩ := q
  simp only [Vc.v] at HR HF ⊢
  clear hl hq hln hf
  go_enter Try.func37, Try.ntmps37
  go_upto_region 2 with fail
  (try rw [hw1])
  clear hw1
  go_wp2_with fail
  go_loopw [7, 10] (fun _ s10 wr => ∃ k : Nat, k ≤ n ∧ s10 = .int .i64 k ∧ Hid (Blk wr w.heap.size 70 #[.int .u64 ((hK f (vxs l) k : Nat) : Int)]) ∧ Hid (Below w.heap.size w wr)) (fun _ s10 _ => n - (intOf s10).toNat)
  case atStart => exact ⟨0, Nat.zero_le _, rfl, K1, B1⟩
  case round =>
    obtain ⟨k, hk, rfl, hK1, hB1⟩ := hrel
    by_cases hlt : k < n
    · obtain ⟨b, o, v, rfl, hb, hu, hat, hc⟩ := (HL.out.below hB1.out).at_ hlt
      have HD := Lib.hid (vdist v ⟨QA, qn, qc, qx⟩ wr w.heap.size hat (HQ.out.below hB1.out))
      have HKS : Hid (min (hK f (vxs l) k + f v.xs) topN = hK f (vxs l) (k + 1)) := by show _ = _; rw [hK_succ (by rw [HLN.out]; exact hlt), vxs_lg hu]
      rw [HF.out] at HD
      have hx1 := hK_le f (vxs l) k
      have hx2 := HFT.out v.xs
      obtain ⟨VA, vn, vc, vx⟩ := v
      simp only [Vc.v] at hc HD HKS hx2
      obtain ⟨y, hy⟩ : ∃ y, f vx = y := ⟨_, rfl⟩
      obtain ⟨z, hz⟩ : ∃ z, hK f (vxs l) k = z := ⟨_, rfl⟩
      rw [hy] at HD HKS hx2
      rw [hz] at HKS hK1 hx1
      have HA := Lib.hid (cl_add w.heap.size z y wr hK1.out hx1 hx2)
      rw [HKS.out] at HA
      have HK2 := Lib.hid (hK1.out.set_ 0 (.int .u64 ((hK f (vxs l) (k + 1) : Nat) : Int)))
      have HB2 := Lib.hid (hB1.out.setCell (p := ⟨w.heap.size, 0, none⟩) (Nat.le_refl _) (.int .u64 ((hK f (vxs l) (k + 1) : Nat) : Int)))
      clear hu hat hb hx1 hx2 hy hz
      go_wp2_with (first
        | (go_at_call 19; (with_reducible refine HD.out.mono ?_); rintro e w' ⟨rfl, rfl⟩)
        | (go_at_call 44; (with_reducible refine HA.out.mono ?_); rintro e w' ⟨rfl, rfl⟩))
      go_roundw
      case rel => exact ⟨k + 1, by omega, by go_num, HK2, HB2⟩
      case measure => simp [intOf]; omega
    · obtain rfl : k = n := by omega
      have hc := hK1.out.cell 0
      go_wp2
      go_ret
      exact ⟨ret_int (by rw [HR.out]), hB1.out⟩
/-- A vector's group. -/
def RetG2 (x : Nat × Nat) (w : World) (e : Ending) (w' : World) : Prop := e = .returned (.tuple #[.int .i64 (x.1 : Nat), .int .u64 (x.2 : Nat)]) ∧ w = w'
set_option maxRecDepth 100000 in
set_option maxHeartbeats 2000000 in
theorem cl_group (q : Vc) (A : Option Addr) (n c : Nat) (l : List Vc) (w : World) (B : Nat) (hq : q.At w B) (hl : Vcs w B A n l) (h1 : 1 ≤ n) (hn : n ≤ 30) (hc : n ≤ c) :
    Calls Try.prog 38 #[q.v, .slice A n c] w (RetG2 (gOf (vxs l) q.xs) w) := by
  obtain ⟨d, hd⟩ : ∃ d : Nat → Nat, (fun j => distE q.xs (lg (vxs l) j)) = d := ⟨_, rfl⟩
  have hln : (vxs l).length = n := by rw [vxs_len, hl.len]
  have HG : Hid (gOf (vxs l) q.xs = grpL d (n - 1)) := by show _ = _; unfold gOf; rw [hd, hln]
  have HDJ : Hid (∀ (j : Nat) (v : Vc), l[j]? = some v → distE q.xs v.xs = d j) := fun j v hv => by rw [← hd]; show _ = distE q.xs (lg (vxs l) j); rw [vxs_lg hv]
  have HQ := Lib.hid hq
  have HL1 : Hid (Vcs w B (subA A 1 c) (n - 1) (l.drop 1)) := hl.drop1 h1 hc
  obtain ⟨b0, o0, v0, rfl, hb0, hu0, hat0, hc0⟩ := hl.at_ (i := 0) (by omega)
  have HD0 := Lib.hid (vdist q v0 w B hq hat0)
  rw [HDJ.out 0 v0 hu0] at HD0
  have s1 := fun w => run_from (P := Try.prog) Try.underlying34 elemT34 (some ⟨b0, o0, none⟩) n c 1 h1 w
  obtain ⟨A1, hA1⟩ : ∃ A1, subA (some ⟨b0, o0, none⟩) 1 c = A1 := ⟨_, rfl⟩
  rw [hA1] at s1 HL1
  have s1 : ∀ w, (Instr.slice 34 (.slice (some ⟨b0, o0, none⟩) n c) (some (.int .i64 1)) none none).run Try.prog w = .ok (.slice A1 (n - 1) (c - 1)) w := s1
  obtain ⟨QA, qn, qc, qx⟩ := q
  obtain ⟨VA, vn, vc, vx⟩ := v0
  simp only [Vc.v] at HG HDJ HD0 hc0 ⊢
  obtain ⟨y0, hy0⟩ : ∃ y, d 0 = y := ⟨_, rfl⟩
  rw [hy0] at HD0
  have HS0 : Hid ((grpL d 0).1 = 0 ∧ (grpL d 0).2 = y0) := ⟨rfl, hy0⟩
  rw [HG.out]
  obtain ⟨n1, hn1⟩ : ∃ n1, n - 1 = n1 := ⟨_, rfl⟩
  rw [hn1] at s1 HL1 ⊢
  have hn30 : n1 ≤ 30 := by omega
  clear hd hln hq hl hb0 hu0 hat0 hA1 hy0 hn1 HG hc
  rw [Nat.add_zero] at hc0
  go_enter Try.func38, Try.ntmps38
  go_wp2_with (go_at_call 19; (with_reducible refine HD0.out.mono ?_); rintro e w' ⟨rfl, rfl⟩)
  clear s1 hc0 HD0
  go_loop [6, 7, 8, 9, 10, 19] (fun s6 s7 _ _ _ s19 => ∃ (k a u : Nat), k ≤ n1 ∧ a ≤ 30 ∧ s19 = .int .i64 k ∧ s6 = .int .i64 a ∧ s7 = .int .u64 u ∧ Hid ((grpL d k).1 = a ∧ (grpL d k).2 = u)) (fun _ _ _ _ _ s19 => n1 - (intOf s19).toNat)
  case atStart => exact ⟨0, 0, y0, Nat.zero_le _, Nat.zero_le _, rfl, rfl, rfl, HS0⟩
  case round =>
    obtain ⟨k, a, u, hk, ha, rfl, rfl, rfl, hg⟩ := hrel
    by_cases hlt : k < n1
    · obtain ⟨b, o, v, rfl, hb, hu, hat, hc⟩ := HL1.out.at_ hlt
      rw [List.getElem?_drop] at hu
      have HD := Lib.hid (vdist ⟨QA, qn, qc, qx⟩ v w B HQ.out hat)
      have hdd := HDJ.out _ v hu
      simp only at HD hdd
      rw [hdd, Nat.add_comm] at HD
      obtain ⟨y, hy⟩ : ∃ y, d (k + 1) = y := ⟨_, rfl⟩
      rw [hy] at HD
      obtain ⟨VA2, vn2, vc2, vx2⟩ := v
      simp only [Vc.v] at hc HD
      have hgs : grpL d (k + 1) = if y < u then (k + 1, y) else grpL d k := by rw [grpL, hg.out.2, hy]
      clear hu hat hb hdd hy
      by_cases h : y < u
      · rw [if_pos h] at hgs
        have HG2 : Hid ((grpL d (k + 1)).1 = k + 1 ∧ (grpL d (k + 1)).2 = y) := by rw [hgs]; exact ⟨rfl, rfl⟩
        have t : decide (y < u) = true := by simp; omega
        clear h hgs
        go_wp2_with (go_at_call 19; (with_reducible refine HD.out.mono ?_); rintro e w' ⟨rfl, rfl⟩)
        go_round
        case rel => exact ⟨k + 1, k + 1, y, by omega, by omega, by go_num, by go_num, rfl, HG2⟩
        case measure => simp [intOf]; omega
      · rw [if_neg h] at hgs
        have HG2 : Hid ((grpL d (k + 1)).1 = a ∧ (grpL d (k + 1)).2 = u) := by rw [hgs]; exact hg.out
        have t : decide (y < u) = false := by simp; omega
        clear h hgs
        go_wp2_with (go_at_call 19; (with_reducible refine HD.out.mono ?_); rintro e w' ⟨rfl, rfl⟩)
        go_round
        case rel => exact ⟨k + 1, a, u, by omega, by omega, by go_num, rfl, rfl, HG2⟩
        case measure => simp [intOf]; omega
    · obtain rfl : k = n1 := by omega
      go_wp2
      refine bodyPost_ret (v := .tuple #[.int .i64 (a : Nat), .int .u64 (u : Nat)]) (by simp [results, Try.results38, go_sem]) rfl ?_
      obtain ⟨g1, g2⟩ := hg.out
      exact ⟨by rw [g1, g2], rfl⟩
/-- The groups of some. -/
def grsL (vs cs : List (List Int)) : List Int := vs.map fun v => ((gOf cs v).1 : Int)
theorem grs_len (vs cs : List (List Int)) : (grsL vs cs).length = vs.length := by simp [grsL]
theorem grs_ig {vs cs : List (List Int)} {i : Nat} (h : i < vs.length) : ig (grsL vs cs) i = ((gOf cs (lg vs i)).1 : Int) := by
  rw [grsL, ig, List.getD_eq_getElem?_getD, List.getElem?_map, List.getElem?_eq_getElem h, lg, List.getD_eq_getElem?_getD, List.getElem?_eq_getElem h]; rfl
theorem info_intG : (Try.prog.info? 3).map (fun i => (i.zero, i.size, i.bytes)) = some (some (.int .i64 0), 1, 8) := by kernel_rfl
/-- Groups that are told. -/
def RetGs (vs cs : List (List Int)) (n : Nat) (w : World) (e : Ending) (w' : World) : Prop := ∃ E, e = .returned (.slice (some ⟨E, 0, none⟩) n n) ∧ w.heap.size ≤ E ∧ Rd w' w'.heap.size (some ⟨E, 0, none⟩) n ((grsL vs cs).map (.int .i64)) ∧ Below w.heap.size w w'
set_option maxRecDepth 100000 in
set_option maxHeartbeats 2000000 in
theorem cl_groups (A : Option Addr) (n c : Nat) (l : List Vc) (A2 : Option Addr) (n2 c2 : Nat) (l2 : List Vc) (w : World) (hl : Vcs w w.heap.size A n l) (hl2 : Vcs w w.heap.size A2 n2 l2) (hn : n ≤ 30) (h1 : 1 ≤ n2) (hn2 : n2 ≤ 30) (hc2 : n2 ≤ c2) :
    Calls Try.prog 16 #[.slice A n c, .slice A2 n2 c2] w (RetGs (vxs l) (vxs l2) n w) := by
  have HL := Lib.hid hl
  have HLN : Hid ((vxs l).length = n) := by show _ = _; rw [vxs_len, hl.len]
  have HG := Lib.hid (fun (v : Vc) (W : World) (hb : Below w.heap.size w W) (hv : v.At W w.heap.size) => cl_group v A2 n2 c2 l2 W w.heap.size hv (hl2.below hb) h1 hn2 hc2)
  have t0 : ((n2 : Int) == 0) = false := by simp; omega
  have hmk := fun (kl kc : IntKind) => run_make_row' (P := Try.prog) 30 3 (.int .i64 0) 8 Try.underlying30 info_intG rfl kl kc n (by omega) (by omega)
  have I0 := Lib.hid (IB.made w 3 n .i64)
  have B0 : Hid (Below w.heap.size w (w.alloc (.cells (madeCells #[.int .i64 0] n) 3))) := bel_boxG _ _
  obtain ⟨W, hW⟩ : ∃ W, w.alloc (.cells (madeCells #[.int .i64 0] n) 3) = W := ⟨_, rfl⟩
  rw [hW] at I0 B0
  clear hl hl2
  go_enter Try.func16, Try.ntmps16
  go_upto_region 4 with fail
  (try rw [hW])
  clear hmk hW
  go_wp2_with fail
  go_loopw [6, 7, 16] (fun _ _ s16 wr => ∃ (k : Nat) (ds : List Int), k ≤ n ∧ s16 = .int .i64 k ∧ Hid (IB wr w.heap.size 3 .i64 ds) ∧ Hid (ds.length = n ∧ ∀ i, i < k → ig ds i = ig (grsL (vxs l) (vxs l2)) i) ∧ Hid (Below w.heap.size w wr)) (fun _ _ s16 _ => n - (intOf s16).toNat)
  case atStart => exact ⟨0, _, Nat.zero_le _, rfl, I0, ⟨List.length_replicate, fun i hi => by omega⟩, B0⟩
  case round =>
    clear I0 B0
    obtain ⟨k, ds, hk, rfl, I, V, hB⟩ := hrel
    by_cases hlt : k < n
    · obtain ⟨b, o, v, rfl, hb, hu, hat, hc⟩ := (HL.out.below hB.out).at_ hlt
      have HGV := Lib.hid (HG.out v wr hB.out hat)
      have hgs := grs_ig (vs := vxs l) (cs := vxs l2) (i := k) (by rw [HLN.out]; exact hlt)
      rw [vxs_lg hu] at hgs
      have v1 := V.out.1
      have hfz := I.out.frozen k
      have hcl := I.out.cell (k := k) (by omega)
      have V2 : Hid ((ds.set k (ig (grsL (vxs l) (vxs l2)) k)).length = n ∧ ∀ i, i < k + 1 → ig (ds.set k (ig (grsL (vxs l) (vxs l2)) k)) i = ig (grsL (vxs l) (vxs l2)) i) := ⟨by rw [List.length_set]; exact v1, fun i hi => by
        rw [ig_set (by omega)]
        split
        · rename_i e; subst e; rfl
        · exact V.out.2 i (by omega)⟩
      have I2 := Lib.hid (I.out.set_ (k := k) (by omega) (ig (grsL (vxs l) (vxs l2)) k))
      have B2 := Lib.hid (hB.out.setCell (p := ⟨w.heap.size, k, none⟩) (Nat.le_refl _) (.int .i64 (ig (grsL (vxs l) (vxs l2)) k)))
      obtain ⟨x, hx⟩ : ∃ x : Int, ig ds k = x := ⟨_, rfl⟩
      rw [hx] at hcl
      obtain ⟨VA, vn, vc, vx⟩ := v
      simp only [Vc.v] at hc HGV hgs
      obtain ⟨y, hy⟩ : ∃ y, gOf (vxs l2) vx = y := ⟨_, rfl⟩
      rw [hy] at hgs HGV
      obtain ⟨y1, y2⟩ := y
      simp only at hgs
      rw [hgs] at V2 I2 B2
      clear hgs hu hat hb v1 hx hy
      go_wp2_with (go_at_call 38; (with_reducible refine HGV.out.mono ?_); rintro e w' ⟨rfl, rfl⟩)
      go_roundw
      case rel => exact ⟨k + 1, _, by omega, by go_num, I2, V2, B2⟩
      case measure => simp [intOf]; omega
    · obtain rfl : k = n := by omega
      have he : ds = grsL (vxs l) (vxs l2) := ext_getD (by rw [V.out.1, grs_len, HLN.out]) fun i hi => V.out.2 i (by rw [V.out.1] at hi; exact hi)
      have hrd := I.out.rd
      rw [V.out.1, he] at hrd
      have HR := Lib.hid hrd
      clear he hrd
      go_wp2_with fail
      go_ret
      exact ⟨w.heap.size, rfl, Nat.le_refl _, HR.out, hB.out⟩
set_option maxRecDepth 100000 in
set_option maxHeartbeats 2000000 in
theorem cl_cost (A : Option Addr) (n c : Nat) (l : List Vc) (A2 : Option Addr) (n2 c2 : Nat) (l2 : List Vc) (w : World) (hl : Vcs w w.heap.size A n l) (hl2 : Vcs w w.heap.size A2 n2 l2) (hn : n ≤ 30) (h1 : 1 ≤ n2) (hn2 : n2 ≤ 30) (hc2 : n2 ≤ c2) :
    Calls Try.prog 20 #[.slice A n c, .slice A2 n2 c2] w (RetN (costL (vxs l) (vxs l2)) w) := by
  have HL := Lib.hid hl
  have hln : (vxs l).length = n := by rw [vxs_len, hl.len]
  have HG := Lib.hid (fun (v : Vc) (W : World) (hb : Below w.heap.size w W) (hv : v.At W w.heap.size) => cl_group v A2 n2 c2 l2 W w.heap.size hv (hl2.below hb) h1 hn2 hc2)
  obtain ⟨f, hf⟩ : ∃ f : List Int → Nat, (fun v => (gOf (vxs l2) v).2) = f := ⟨_, rfl⟩
  have HR : Hid (costL (vxs l) (vxs l2) = hK f (vxs l) n) := by show _ = _; unfold costL; rw [hf, ← hln, hK_all]
  have HF : Hid (∀ v, (gOf (vxs l2) v).2 = f v) := fun v => by rw [← hf]
  have HFT : Hid (∀ v, f v ≤ topN) := fun v => by rw [← hf]; show (gOf _ _).2 ≤ _; rw [gOf_dist]; exact dist_top _ _
  obtain ⟨w1, hw1⟩ : ∃ x, w.alloc (.cells #[.int .u64 0] 70) = x := ⟨_, rfl⟩
  have B1 : Hid (Below w.heap.size w w1) := by show Below _ _ _; rw [← hw1]; exact bel_boxG _ _
  have K1 : Hid (Blk w1 w.heap.size 70 #[.int .u64 ((hK f (vxs l) 0 : Nat) : Int)]) := by show Blk _ _ _ _; rw [← hw1]; exact Blk.new _ _ _
  have HLN : Hid ((vxs l).length = n) := hln
  have t0 : decide ((0 : Int) < (n2 : Int)) = true := by simp; omega
  have t1 : decide (0 < n2) = true := by simp; omega
  clear hl hl2 hln hf
  go_enter Try.func20, Try.ntmps20
  go_upto_region 2 with fail
  (try rw [hw1])
  clear hw1
  go_wp2_with fail
  go_loopw [7, 8, 9, 12] (fun _ _ _ s12 wr => ∃ k : Nat, k ≤ n ∧ s12 = .int .i64 k ∧ Hid (Blk wr w.heap.size 70 #[.int .u64 ((hK f (vxs l) k : Nat) : Int)]) ∧ Hid (Below w.heap.size w wr)) (fun _ _ _ s12 _ => n - (intOf s12).toNat)
  case atStart => exact ⟨0, Nat.zero_le _, rfl, K1, B1⟩
  case round =>
    obtain ⟨k, hk, rfl, hK1, hB1⟩ := hrel
    by_cases hlt : k < n
    · obtain ⟨b, o, v, rfl, hb, hu, hat, hc⟩ := (HL.out.below hB1.out).at_ hlt
      have HGV := Lib.hid (HG.out v wr hB1.out hat)
      have HKS : Hid (min (hK f (vxs l) k + f v.xs) topN = hK f (vxs l) (k + 1)) := by show _ = _; rw [hK_succ (by rw [HLN.out]; exact hlt), vxs_lg hu]
      have hfv := HF.out v.xs
      have hx1 := hK_le f (vxs l) k
      have hx2 := HFT.out v.xs
      obtain ⟨VA, vn, vc, vx⟩ := v
      simp only [Vc.v] at hc HGV HKS hx2 hfv
      obtain ⟨yy, hyy⟩ : ∃ y, gOf (vxs l2) vx = y := ⟨_, rfl⟩
      rw [hyy] at HGV hfv
      obtain ⟨y1, y2⟩ := yy
      simp only at hfv
      rw [← hfv] at HKS hx2
      obtain ⟨z, hz⟩ : ∃ z, hK f (vxs l) k = z := ⟨_, rfl⟩
      rw [hz] at HKS hK1 hx1
      have HA := Lib.hid (cl_add w.heap.size z y2 wr hK1.out hx1 hx2)
      rw [HKS.out] at HA
      have HK2 := Lib.hid (hK1.out.set_ 0 (.int .u64 ((hK f (vxs l) (k + 1) : Nat) : Int)))
      have HB2 := Lib.hid (hB1.out.setCell (p := ⟨w.heap.size, 0, none⟩) (Nat.le_refl _) (.int .u64 ((hK f (vxs l) (k + 1) : Nat) : Int)))
      clear hu hat hb hx1 hx2 hyy hz hfv
      go_wp2_with (first
        | (go_at_call 38; (with_reducible refine HGV.out.mono ?_); rintro e w' ⟨rfl, rfl⟩)
        | (go_at_call 44; (with_reducible refine HA.out.mono ?_); rintro e w' ⟨rfl, rfl⟩))
      go_roundw
      case rel => exact ⟨k + 1, by omega, by go_num, HK2, HB2⟩
      case measure => simp [intOf]; omega
    · obtain rfl : k = n := by omega
      have hc := hK1.out.cell 0
      go_wp2
      go_ret
      exact ⟨ret_int (by rw [HR.out]), hB1.out⟩
end Go.Proofs.Ytlmgfbhgamchgaa
