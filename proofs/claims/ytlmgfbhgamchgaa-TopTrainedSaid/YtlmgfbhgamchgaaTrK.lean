/- Walk of the law TopTrained. -/
import Derived.Test.YtlmgfbhgamchgaaTrJ
namespace Go.Proofs.Ytlmgfbhgamchgaa
open Go.RowKit
set_option maxRecDepth 100000 in
set_option maxHeartbeats 2000000 in
theorem trained_out (A : Option Addr) (n c : Nat) (A2 : Option Addr) (n2 c2 : Nat) (w : World) (h : 30 < n ∨ n2 < 1 ∨ 30 < n2) :
    Calls Try.prog 4 #[.slice A n c, .slice A2 n2 c2] w fun e w' => e = .returned (.bool true) ∧ Below w.heap.size w w' := by
  by_cases h1 : 30 < n
  · have t1 : decide ((30 : Int) < (n : Int)) = true := by simp; omega
    clear h
    go_enter Try.func4, Try.ntmps4
    go_wp2_with (go_at_call 11; (with_reducible refine (begins23_any w).mono ?_); rintro e w1 ⟨rfl, B1⟩; replace B1 := Lib.hid B1)
    go_ret
    exact ⟨rfl, B1.out⟩
  · have t1 : decide ((30 : Int) < (n : Int)) = false := by simp; omega
    by_cases h2 : n2 < 1
    · obtain rfl : n2 = 0 := by omega
      clear h h1
      go_enter Try.func4, Try.ntmps4
      go_wp2_with (go_at_call 11; (with_reducible refine (begins23_any w).mono ?_); rintro e w1 ⟨rfl, B1⟩; replace B1 := Lib.hid B1)
      go_ret
      exact ⟨rfl, B1.out⟩
    · have t2 : decide ((n2 : Int) < 1) = false := by simp; omega
      have t3 : decide ((30 : Int) < (n2 : Int)) = true := by simp; omega
      clear h h1 h2
      go_enter Try.func4, Try.ntmps4
      go_wp2_with (go_at_call 11; (with_reducible refine (begins23_any w).mono ?_); rintro e w1 ⟨rfl, B1⟩; replace B1 := Lib.hid B1)
      go_ret
      exact ⟨rfl, B1.out⟩
set_option maxRecDepth 100000 in
set_option maxHeartbeats 2000000 in
theorem trained_bad (A : Option Addr) (n c : Nat) (A2 : Option Addr) (n2 c2 : Nat) (l2 : List Vc) (w : World) (hl2 : Vcs w w.heap.size A2 n2 l2) (hc2 : n2 ≤ c2) (hn : n ≤ 30) (h1 : 1 ≤ n2) (h2 : n2 ≤ 30) (hb : rightL (vxs l2) = false) :
    Calls Try.prog 4 #[.slice A n c, .slice A2 n2 c2] w fun e w' => e = .returned (.bool true) ∧ Below w.heap.size w w' := by
  have t1 : decide ((30 : Int) < (n : Int)) = false := by simp; omega
  have t2 : decide ((n2 : Int) < 1) = false := by simp; omega
  have t3 : decide ((30 : Int) < (n2 : Int)) = false := by simp; omega
  have HCK := Lib.hid (fun (w1 : World) (hb1 : Below w.heap.size w w1) => q_check w1.heap.size A2 n2 c2 l2 (w1.alloc (.cells #[.slice A2 n2 c2] 34)) (Bk.new w1 34 A2 n2 c2 l2 (hl2.on (Nat.le_refl _) hb1) hc2) h1 h2)
  rw [hb] at HCK
  clear hl2 hb
  go_enter Try.func4, Try.ntmps4
  go_wp2_with (first
    | (go_at_call 11; (with_reducible refine (begins23_any w).mono ?_); rintro e w1 ⟨rfl, B1⟩; replace B1 := Lib.hid B1)
    | (go_at_call 12; (with_reducible refine (HCK.out w1 B1.out).mono ?_); rintro e w2 ⟨rfl, hb2⟩; have B2 : Hid (Below w.heap.size w w2) := (B1.out.trans ((bel_boxT w1 _).mono B1.out.size)).trans (hb2.mono (by have := B1.out.size; simp only [World.alloc, Array.size_push]; omega)); clear hb2))
  go_ret
  exact ⟨rfl, B2.out⟩
/-- The world a round of the law is in: two books, vectors, groups. -/
structure TrS (W : World) (g1 g2 E : Nat) (A2 : Option Addr) (n2 c2 O : Nat) (l l2 l3 : List Vc) (A : Option Addr) (n : Nat) (gs : List Int) : Prop where
  k1 : Bk W W.heap.size g1 A2 n2 c2 l2
  k2 : Bk W W.heap.size g2 (some ⟨O, 0, none⟩) n2 n2 l3
  vs : Vcs W W.heap.size A n l
  gr : Rd W W.heap.size (some ⟨E, 0, none⟩) n (gs.map (.int .i64))
theorem TrS.below {W W' : World} {g1 g2 E : Nat} {A2 : Option Addr} {n2 c2 O : Nat} {l l2 l3 : List Vc} {A : Option Addr} {n : Nat} {gs : List Int} (h : TrS W g1 g2 E A2 n2 c2 O l l2 l3 A n gs) (hb : Below W.heap.size W W') : TrS W' g1 g2 E A2 n2 c2 O l l2 l3 A n gs :=
  ⟨h.k1.on (Nat.le_refl _) hb, h.k2.on (Nat.le_refl _) hb, h.vs.on (Nat.le_refl _) hb, (h.gr.below hb).more hb.size⟩
theorem szIntsT : ∀ w, (sizeOf (Try.prog.elem 30)).run Try.prog w = .ok 1 w := fun w => by kernel_rfl
theorem load_intT {w : World} {b o : Nat} {v : Int} (h : w.cell? ⟨b, o, none⟩ = some (.int .i64 v)) : (Instr.loadAt 3 (.pointer (some ⟨b, o, none⟩))).run Try.prog w = .ok (.int .i64 v) w := by
  simp [go_sem, h]
theorem yieldsIf_neqT {P : Program} {ops : Array Oper} {S : World → Prop} {o : Oper} {a : Act} {t t' : TypeId} {k : IntKind} {m n : Int} {r : Bool} (hw : Region.wanted o (yielded ops a.tmps) = true) (x y : Operand) (ho : o.op = .binOp .neq t x y t') (hx : a.eval x = .int k m) (hy : a.eval y = .int k n) (hr : (m != n) = r) :
    YieldsIf P ops S o (.bool r) a := by
  refine .inl ⟨hw, fun w _ => ?_⟩
  subst hr
  unfold execOp
  simp only [ho, hx, hy]
  simp [go_sem, bne]
theorem sum_le (f : List Int → Nat) : ∀ (vs : List (List Int)), (∀ v ∈ vs, f v ≤ 288230376151711744) → (vs.map f).sum ≤ vs.length * 288230376151711744
  | [], _ => Nat.zero_le _
  | v :: vs, h => by
    have h1 := h v List.mem_cons_self
    have h2 := sum_le f vs fun u hu => h u (List.mem_cons_of_mem _ hu)
    rw [List.map_cons, List.sum_cons, List.length_cons, Nat.add_mul]
    omega
theorem cost_sum {vs cs : List (List Int)} (_hn : vs.length ≤ 30) (h : sumK (fun v => (gOf cs v).2) vs vs.length ≤ 30 * 288230376151711744) : costL vs cs = sumK (fun v => (gOf cs v).2) vs vs.length := by
  rw [sumK_all] at h ⊢
  unfold costL topN
  rw [heldS_eq]
  omega
set_option maxRecDepth 100000 in
set_option maxHeartbeats 8000000 in
theorem trained_walk (A : Option Addr) (n c : Nat) (l : List Vc) (A2 : Option Addr) (n2 c2 : Nat) (l2 : List Vc) (w : World) (hl : Vcs w w.heap.size A n l) (hl2 : Vcs w w.heap.size A2 n2 l2) (hc2 : n2 ≤ c2) (hn : n ≤ 30) (h1 : 1 ≤ n2) (h2 : n2 ≤ 30) (hr : rightL (vxs l2) = true) :
    Calls Try.prog 4 #[.slice A n c, .slice A2 n2 c2] w fun e w' => e = .returned (.bool true) ∧ Below w.heap.size w w' := by
  have t1 : decide ((30 : Int) < (n : Int)) = false := by simp; omega
  have t2 : decide ((n2 : Int) < 1) = false := by simp; omega
  have t3 : decide ((30 : Int) < (n2 : Int)) = false := by simp; omega
  obtain ⟨d, hd1, hd2, hd, hok2⟩ := right_dim hr (by rw [vxs_len, hl2.len]; omega)
  have HBK := Lib.hid (fun (w1 : World) (hb1 : Below w.heap.size w w1) => Bk.new w1 34 A2 n2 c2 l2 (hl2.on (Nat.le_refl _) hb1) hc2)
  have HCK := Lib.hid (fun (g1 : Nat) (W : World) (hb : Bk W W.heap.size g1 A2 n2 c2 l2) => q_check g1 A2 n2 c2 l2 W hb h1 h2)
  have HDM := Lib.hid (fun (g1 : Nat) (W : World) (hb : Bk W W.heap.size g1 A2 n2 c2 l2) => q_dim g1 A2 n2 c2 d l2 W hb h1 h2 hd2 hr hd)
  rw [hr, if_pos rfl] at HCK
  have HL := Lib.hid hl
  have HL2 := Lib.hid hl2
  have HOK2 := Lib.hid hok2
  have HR := Lib.hid hr
  have HD := Lib.hid hd
  have HLN : Hid (l.length = n) := hl.len
  have HLN2 : Hid (l2.length = n2) := hl2.len
  clear hl hl2 hok2 hr hd
  go_enter Try.func4, Try.ntmps4
  go_upto_region 6 with (go_at_call 11; (with_reducible refine (begins23_any w).mono ?_); rintro e w1 ⟨rfl, B1⟩; replace B1 := Lib.hid B1)
  have HK2 := Lib.hid (HBK.out w1 B1.out)
  have b2 := bel_boxT w1 (.cells #[.slice A2 n2 c2] 34)
  have hs1 := B1.out.size
  obtain ⟨w2, hw2⟩ : ∃ x, w1.alloc (.cells #[.slice A2 n2 c2] 34) = x := ⟨_, rfl⟩
  rw [hw2] at HK2 b2
  have B2 : Hid (Below w.heap.size w w2) := B1.out.trans (b2.mono hs1)
  have hs2 := b2.size
  (try rw [hw2])
  clear hw2 HBK B1 b2
  obtain ⟨g1, hg1⟩ : ∃ g, w1.heap.size = g := ⟨_, rfl⟩
  rw [hg1] at HK2 hs1 hs2 ⊢
  clear hg1
  have HC2 := Lib.hid (HCK.out g1 w2 HK2.out)
  go_upto_region 8 with (go_at_call 12; (with_reducible refine HC2.out.mono ?_); rintro e w3 ⟨rfl, b3⟩; have HK3 := Lib.hid (HK2.out.on (Nat.le_refl _) b3); have B3 : Hid (Below w.heap.size w w3) := B2.out.trans (b3.mono B2.out.size); clear b3)
  clear HC2 HK2 B2
  have HD3 := Lib.hid (HDM.out g1 w3 HK3.out)
  go_upto_region 9 with (go_at_call 13; (with_reducible refine HD3.out.mono ?_); rintro e w4 ⟨rfl, b4⟩; have HK4 := Lib.hid (HK3.out.on (Nat.le_refl _) b4); have B4 : Hid (Below w.heap.size w w4) := B3.out.trans (b4.mono B3.out.size); clear b4)
  clear HD3 HK3 B3 HCK HDM
  have HL4 := Lib.hid (HL.out.on (Nat.le_refl _) B4.out)
  have HL24 := Lib.hid (HL2.out.on (Nat.le_refl _) B4.out)
  clear HL HL2
  go_wp2_with fail
  go_loop [8, 50] (fun _ s50 => ∃ k : Nat, k ≤ n ∧ s50 = .int .i64 k ∧ Hid (∀ v ∈ l.take k, OkV d v.xs)) (fun _ s50 => n - (intOf s50).toNat)
  case atStart => exact ⟨0, Nat.zero_le _, rfl, Lib.hid (fun v hv => by simp at hv)⟩
  case round =>
    obtain ⟨k, hk, rfl, HV⟩ := hrel
    by_cases hlt : k < n
    · obtain ⟨b, o, v, rfl, hb, hu, hat, hc⟩ := HL4.out.at_ hlt
      have HC := Lib.hid (vchk v d w4 w4.heap.size hat)
      have hst : l.take (k + 1) = l.take k ++ [v] := by rw [List.take_add_one, hu]; rfl
      cases hx : chkV v.xs d with
      | true =>
        have HV2 : Hid (∀ u ∈ l.take (k + 1), OkV d u.xs) := fun u hu => by
          rw [hst] at hu
          rcases List.mem_append.1 hu with q | q
          · exact HV.out u q
          · rw [List.mem_singleton] at q; subst q; exact (chkV_ok hd1 hd2).1 hx
        have e : vchkE v.xs d = 0 := by unfold vchkE; rw [hx]; rfl
        rw [e] at HC
        obtain ⟨VA, vn, vc, vx⟩ := v
        simp only [Vc.v] at hc HC
        clear hst hu hat hb hx e HV
        go_wp2_with (go_at_call 14; (with_reducible refine HC.out.mono ?_); rintro e w' ⟨rfl, rfl⟩)
        go_round
        case rel => exact ⟨k + 1, by omega, by go_num, HV2⟩
        case measure => simp [intOf]; omega
      | false =>
        have e : vchkE v.xs d = 1 := by unfold vchkE; rw [hx]; rfl
        rw [e] at HC
        obtain ⟨VA, vn, vc, vx⟩ := v
        simp only [Vc.v] at hc HC
        clear hst hu hat hb hx e HV
        go_wp2_with (go_at_call 14; (with_reducible refine HC.out.mono ?_); rintro e w' ⟨rfl, rfl⟩)
        go_ret
        exact ⟨rfl, B4.out⟩
    · obtain rfl : k = n := by omega
      have HOK : Hid (∀ v ∈ l, OkV d v.xs) := fun v hv => HV.out v (by rw [List.take_of_length_le (by rw [HLN.out]; exact Nat.le_refl _)]; exact hv)
      have HOKX : Hid (∀ v ∈ vxs l, OkV d v) := fun x hx => by
        obtain ⟨v, hv, rfl⟩ := List.mem_map.1 hx
        exact HOK.out v hv
      have HST := Lib.hid (cl_step A k c l A2 n2 c2 l2 d w4 HL4.out HL24.out hn h1 h2 hc2 hd1 hd2 HOKX.out HOK2.out)
      clear HV
      go_upto_region 16 with (go_at_call 15; (with_reducible refine HST.out.mono ?_); rintro e w5 ⟨O, l3, rfl, hl3, hx3, b5⟩; have HL3 := Lib.hid hl3; have HX3 := Lib.hid hx3; have B5 := Lib.hid b5; clear hl3 hx3 b5)
      clear HST
      have hs5 := B5.out.size
      have HK5 := Lib.hid (Bk.new w5 34 (some ⟨O, 0, none⟩) n2 n2 l3 HL3.out (Nat.le_refl _))
      have b6 := bel_boxT w5 (.cells #[.slice (some ⟨O, 0, none⟩) n2 n2] 34)
      obtain ⟨w6, hw6⟩ : ∃ x, w5.alloc (.cells #[.slice (some ⟨O, 0, none⟩) n2 n2] 34) = x := ⟨_, rfl⟩
      rw [hw6] at HK5 b6
      have B46 : Hid (Below w4.heap.size w4 w6) := B5.out.trans (b6.mono hs5)
      go_upto_region 17 with fail
      (try rw [hw6])
      clear hw6
      obtain ⟨g2, hg2⟩ : ∃ g, w5.heap.size = g := ⟨_, rfl⟩
      rw [hg2] at HK5 ⊢
      clear hg2 b6 HL3 B5 hs5
      have HGR := Lib.hid (cl_groups A k c l A2 n2 c2 l2 w6 (HL4.out.on (Nat.le_refl _) B46.out) (HL24.out.on (Nat.le_refl _) B46.out) hn h1 h2 hc2)
      go_upto_region 18 with (go_at_call 16; (with_reducible refine HGR.out.mono ?_); rintro e w7 ⟨E, rfl, _, hgr, b7⟩; have R7 := Lib.hid hgr; have B7 := Lib.hid b7; clear hgr b7)
      clear HGR
      have B47 : Hid (Below w4.heap.size w4 w7) := B46.out.trans (B7.out.mono B46.out.size)
      have HT7 : Hid (TrS w7 g1 g2 E A2 n2 c2 O l l2 l3 A k (grsL (vxs l) (vxs l2))) := ⟨HK4.out.on (Nat.le_refl _) B47.out, HK5.out.on (Nat.le_refl _) B7.out, HL4.out.on (Nat.le_refl _) B47.out, R7.out⟩
      have B07 : Hid (Below w.heap.size w w7) := B4.out.trans (B47.out.mono B4.out.size)
      have hx3 := HX3.out
      have hokn : ∀ v ∈ vxs l3, OkV d v := by rw [hx3]; exact ok_step HOKX.out HOK2.out
      have hn3 : (vxs l3).length = n2 := by rw [hx3, step_len, vxs_len, HLN2.out]
      have hr3 : rightL (vxs l3) = true := right_of_ok hd1 hd2 (by omega) hokn
      have hd3 : (lg (vxs l3) 0).length = d := (hokn _ (lg_mem (by omega))).1
      have hck := q_check g2 (some ⟨O, 0, none⟩) n2 n2 l3 w7 HT7.out.k2 h1 h2
      rw [hr3, if_pos rfl] at hck
      have HC7 := Lib.hid hck
      have HR3 := Lib.hid hr3
      have HD3 := Lib.hid hd3
      have HN3 := Lib.hid hn3
      clear hx3 hokn hr3 hd3 hn3 hck HK4 HL4 HL24 HK5 B46 R7 B7 B47 B4
      have u1 : ((k : Int) != (k : Int)) = false := by simp
      have u2 : ((n2 : Int) != (n2 : Int)) = false := by simp
      go_upto_region 20 with (go_at_call 12; (with_reducible refine HC7.out.mono ?_); rintro e w8 ⟨rfl, b8⟩; have HT8 := Lib.hid (HT7.out.below b8); have B08 : Hid (Below w.heap.size w w8) := B07.out.trans (b8.mono B07.out.size); clear b8)
      clear HC7 HT7 B07 u1 u2 t1 t2 t3
      obtain ⟨f, hf⟩ : ∃ f : List Int → Nat, (fun v => (gOf (vxs l2) v).2) = f := ⟨_, rfl⟩
      obtain ⟨h, hh⟩ : ∃ f : List Int → Nat, (fun v => (gOf (vxs l3) v).2) = f := ⟨_, rfl⟩
      have HF : Hid (∀ v, (gOf (vxs l2) v).2 = f v) := fun v => by rw [← hf]
      have HH : Hid (∀ v, (gOf (vxs l3) v).2 = h v) := fun v => by rw [← hh]
      have HVL : Hid ((vxs l).length = k) := by show _ = _; rw [vxs_len, HLN.out]
      go_wp2_with fail
      go_loopw [12, 13, 14, 15, 16, 17, 18, 19, 20, 21, 22, 23, 24, 25, 86] (fun s12 s13 _ _ _ _ _ _ _ _ _ _ _ _ s86 wr => ∃ (i a b : Nat), i ≤ k ∧ a ≤ i * 288230376151711744 ∧ b ≤ i * 288230376151711744 ∧ s86 = .int .i64 i ∧ s12 = .int .u64 a ∧ s13 = .int .u64 b ∧ Hid (a = sumK f (vxs l) i ∧ b = sumK h (vxs l) i) ∧ Hid (Below w8.heap.size w8 wr)) (fun _ _ _ _ _ _ _ _ _ _ _ _ _ _ s86 _ => k - (intOf s86).toNat)
      case atStart => exact ⟨0, 0, 0, Nat.zero_le _, Nat.zero_le _, Nat.zero_le _, rfl, rfl, rfl, Lib.hid ⟨rfl, rfl⟩, Below.refl _ _⟩
      case round =>
        obtain ⟨i, a, b, hi, ha, hb, rfl, rfl, rfl, HS, HB⟩ := hrel
        have HTr := Lib.hid (HT8.out.below HB.out)
        have HBW : Hid (Below w.heap.size w wr) := B08.out.trans (HB.out.mono B08.out.size)
        have hbs := HB.out.size
        by_cases hlt : i < k
        · obtain ⟨vb, vo, v, rfl, hvb, hu, hat, hc⟩ := HTr.out.vs.at_ hlt
          have hvo := HOK.out v (List.mem_of_getElem? hu)
          have hlv : v.n = d := by rw [← hat.len]; exact hvo.1
          have hgi := grs_ig (vs := vxs l) (cs := vxs l2) (i := i) (by rw [HVL.out]; exact hlt)
          have hSa := sumK_succ (f := f) (vs := vxs l) (k := i) (by rw [HVL.out]; exact hlt)
          have hSb := sumK_succ (f := h) (vs := vxs l) (k := i) (by rw [HVL.out]; exact hlt)
          rw [vxs_lg hu] at hgi hSa hSb
          rw [← HS.out.1] at hSa
          rw [← HS.out.2] at hSb
          have hm1 := gOf_lt (cs := vxs l2) v.xs (by rw [vxs_len, HLN2.out]; omega)
          have hm2 := gOf_lt (cs := vxs l3) v.xs (by rw [HN3.out]; omega)
          rw [vxs_len, HLN2.out] at hm1
          rw [HN3.out] at hm2
          have hda := gOf_dist (vxs l2) v.xs
          have hdb := gOf_dist (vxs l3) v.xs
          rw [HF.out] at hda
          rw [HH.out] at hdb
          have HE1 := Lib.hid (q_encode g1 A2 n2 c2 l2 v wr HTr.out.k1 h1 h2 hat (by omega) (by omega) HR.out (by rw [HD.out, hlv]) (by rw [hlv]; exact hvo))
          have HE2 := Lib.hid (fun (W : World) (hb : Below wr.heap.size wr W) => q_encode g2 (some ⟨O, 0, none⟩) n2 n2 l3 v W (HTr.out.below hb).k2 h1 h2 (hat.on (Nat.le_refl _) hb) (by omega) (by omega) HR3.out (by rw [HD3.out, hlv]) (by rw [hlv]; exact hvo))
          have HV := Lib.hid hat
          obtain ⟨VA, vn, vc, vx⟩ := v
          simp only [Vc.v] at hc hgi hSa hSb hm1 hm2 hda hdb HE1 HE2
          obtain ⟨m1, hm1e⟩ : ∃ m, (gOf (vxs l2) vx).1 = m := ⟨_, rfl⟩
          obtain ⟨m2, hm2e⟩ : ∃ m, (gOf (vxs l3) vx).1 = m := ⟨_, rfl⟩
          rw [hm1e] at hgi hm1 hda HE1
          rw [hm2e] at hm2 hdb HE2
          obtain ⟨fa, hfa⟩ : ∃ y, f vx = y := ⟨_, rfl⟩
          obtain ⟨fb, hfb⟩ : ∃ y, h vx = y := ⟨_, rfl⟩
          rw [hfa] at hSa hda
          rw [hfb] at hSb hdb
          have HX1 : Hid (∀ (E1 : Nat) (W : World), Below wr.heap.size wr W → E1 < W.heap.size → W.cell? ⟨E1, 0, none⟩ = some (.int .i64 (m1 : Nat)) → Calls Try.prog 18 #[.slice (some ⟨g1, 0, none⟩) 1 1, .slice (some ⟨E1, 0, none⟩) 1 1] W fun e w' => ∃ XA xn xc, e = .returned (.tuple #[.slice XA xn xc, .int .i64 0]) ∧ (⟨XA, xn, xc, lg (vxs l2) m1⟩ : Vc).At w' w'.heap.size ∧ Below W.heap.size W w') := fun E1 W hb hE hEc => (q_decode g1 E1 A2 n2 c2 m1 l2 W (HTr.out.below hb).k1 h1 h2 HR.out hE hEc hm1).mono fun e w' hx => by
            obtain ⟨⟨xA, xn, xc, xx⟩, q1, q2, q3, q4⟩ := hx
            simp only at q3
            subst q3
            exact ⟨xA, xn, xc, q1, q2, q4⟩
          have HX2 : Hid (∀ (E1 : Nat) (W : World), Below wr.heap.size wr W → E1 < W.heap.size → W.cell? ⟨E1, 0, none⟩ = some (.int .i64 (m2 : Nat)) → Calls Try.prog 18 #[.slice (some ⟨g2, 0, none⟩) 1 1, .slice (some ⟨E1, 0, none⟩) 1 1] W fun e w' => ∃ XA xn xc, e = .returned (.tuple #[.slice XA xn xc, .int .i64 0]) ∧ (⟨XA, xn, xc, lg (vxs l3) m2⟩ : Vc).At w' w'.heap.size ∧ Below W.heap.size W w') := fun E1 W hb hE hEc => (q_decode g2 E1 (some ⟨O, 0, none⟩) n2 n2 m2 l3 W (HTr.out.below hb).k2 h1 h2 HR3.out hE hEc hm2).mono fun e w' hx => by
            obtain ⟨⟨xA, xn, xc, xx⟩, q1, q2, q3, q4⟩ := hx
            simp only at q3
            subst q3
            exact ⟨xA, xn, xc, q1, q2, q4⟩
          have hgr0 := HTr.out.gr.atI (k := i) hlt
          obtain ⟨eb, eo, eE, heb, hcE⟩ := hgr0
          injection eE with eE
          injection eE with e1 e2
          subst e1 e2
          rw [hgi] at hcE
          have HCE := Lib.hid hcE
          have HEB : Hid (E < wr.heap.size) := heb
          have HSA := Lib.hid hSa
          have HSB := Lib.hid hSb
          have HDA := Lib.hid hda
          have HDB := Lib.hid hdb
          have HFA : Hid (f vx = fa) := hfa
          have HFB : Hid (h vx = fb) := hfb
          clear hu hat hvo hlv hgi hSa hSb hm1 hm2 hda hdb hm1e hm2e hfa hfb hcE heb hvb
          go_upto_region 24 with fail
          clear hc
          go_upto_region 25 with (go_at_call 17; (with_reducible refine HE1.out.mono ?_); rintro e wa ⟨E1, rfl, he1, hc1, hba⟩; have BA := Lib.hid hba; have CE1 := Lib.hid hc1; have LE1 := Lib.hid he1; clear he1 hc1 hba)
          go_upto_region 26 with (go_at_call 18; (with_reducible refine (HX1.out E1 wa BA.out LE1.out CE1.out).mono ?_); rintro e wb ⟨XA, xn, xc, rfl, hx1, hbb⟩; have BB : Hid (Below wr.heap.size wr wb) := BA.out.trans (hbb.mono BA.out.size); have CE1b : Hid (wb.cell? ⟨E1, 0, none⟩ = some (.int .i64 (m1 : Nat))) := (hbb.cell (p := ⟨E1, 0, none⟩) LE1.out).trans CE1.out; have LE1b : Hid (E1 < wb.heap.size) := Nat.lt_of_lt_of_le LE1.out hbb.size; have X1 := Lib.hid hx1; clear hx1 hbb)
          clear HE1 HX1 BA CE1 LE1
          go_upto_region 27 with (go_at_call 17; (with_reducible refine (HE2.out wb BB.out).mono ?_); rintro e wc ⟨E2, rfl, he2, hc2', hbc⟩; have BC : Hid (Below wr.heap.size wr wc) := BB.out.trans (hbc.mono BB.out.size); have CE1c : Hid (wc.cell? ⟨E1, 0, none⟩ = some (.int .i64 (m1 : Nat))) := (hbc.cell (p := ⟨E1, 0, none⟩) LE1b.out).trans CE1b.out; have LE1c : Hid (E1 < wc.heap.size) := Nat.lt_of_lt_of_le LE1b.out hbc.size; have X1c := Lib.hid (X1.out.on (Nat.le_refl _) hbc); have CE2 := Lib.hid hc2'; have LE2 := Lib.hid he2; clear he2 hc2' hbc)
          go_upto_region 28 with (go_at_call 18; (with_reducible refine (HX2.out E2 wc BC.out LE2.out CE2.out).mono ?_); rintro e wd ⟨YA, yn, yc, rfl, hy1, hbd⟩; have BD : Hid (Below wr.heap.size wr wd) := BC.out.trans (hbd.mono BC.out.size); have q1 := (hbd.cell (p := ⟨E1, 0, none⟩) LE1c.out).trans CE1c.out; have X1d := Lib.hid (X1c.out.on (Nat.le_refl _) hbd); have Y1 := Lib.hid hy1; clear hy1 hbd)
          clear HE2 HX2 BB CE1b LE1b X1 BC CE1c LE1c X1c CE2 LE2
          have q2 := (BD.out.cell (p := ⟨E, 0 + i, none⟩) HEB.out).trans HCE.out
          rw [show 0 + i = 0 + i * 1 by omega] at q2
          have u1 : ((m1 : Int) != (m1 : Int)) = false := by simp
          have HVd := Lib.hid (HV.out.on (Nat.le_refl _) BD.out)
          have HD1 := Lib.hid (fun k => vdist ⟨VA, vn, vc, vx⟩ ⟨XA, xn, xc, lg (vxs l2) m1⟩ (wd.drewN k) wd.heap.size (HVd.out.below (below_drewN (Below.refl _ _) k)) (X1d.out.below (below_drewN (Below.refl _ _) k)))
          have HD2 := Lib.hid (fun k => vdist ⟨VA, vn, vc, vx⟩ ⟨YA, yn, yc, lg (vxs l3) m2⟩ (wd.drewN k) wd.heap.size (HVd.out.below (below_drewN (Below.refl _ _) k)) (Y1.out.below (below_drewN (Below.refl _ _) k)))
          simp only [Vc.v] at HD1 HD2
          rw [← HDA.out] at HD1
          rw [← HDB.out] at HD2
          clear HCE HDA HDB HV X1d Y1 HVd
          refine wp_region_held_drew (S := fun W => W = wd.drew) (by kernel_rfl) rfl (fun hH => ?_)
          refine wpAnyH_take (i := 0) (v := .int .i64 0) rfl (by kernel_rfl) (by kernel_rfl) (by kernel_rfl) (fun _ _ _ h => h) (.inl ⟨by rfl, fun _ _ => by kernel_rfl⟩) hH ?_
          (try simp only [List.getElem_toArray, List.getElem_cons_zero, Act.put, List.setIfInBounds_toArray, List.set_cons_zero, List.set_cons_succ])
          refine wpAnyH_take (i := 1) (v := .bool false) rfl (by kernel_rfl) (by kernel_rfl) (by kernel_rfl) (fun _ _ _ h => h) (.inl ⟨by rfl, fun _ _ => by kernel_rfl⟩) hH ?_
          (try simp only [List.getElem_toArray, List.getElem_cons_zero, List.getElem_cons_succ, Act.put, List.setIfInBounds_toArray, List.set_cons_zero, List.set_cons_succ])
          refine wpAnyH_take (i := 2) (v := .bool false) rfl (by kernel_rfl) (by kernel_rfl) (by kernel_rfl) (fun _ _ _ h => h) (.inl ⟨by rfl, fun _ _ => by kernel_rfl⟩) hH ?_
          (try simp only [List.getElem_toArray, List.getElem_cons_zero, List.getElem_cons_succ, Act.put, List.setIfInBounds_toArray, List.set_cons_zero, List.set_cons_succ])
          refine wpAnyH_take (i := 3) (v := .int .i64 0) rfl (by kernel_rfl) (by kernel_rfl) (by kernel_rfl) (fun _ _ _ h => h) (.inl ⟨by rfl, fun _ _ => by kernel_rfl⟩) hH ?_
          (try simp only [List.getElem_toArray, List.getElem_cons_zero, List.getElem_cons_succ, Act.put, List.setIfInBounds_toArray, List.set_cons_zero, List.set_cons_succ])
          refine wpAnyH_take (i := 4) (v := .bool false) rfl (by kernel_rfl) (by kernel_rfl) (by kernel_rfl) (fun _ _ _ h => h) (.inl ⟨by rfl, fun _ _ => by kernel_rfl⟩) hH ?_
          (try simp only [List.getElem_toArray, List.getElem_cons_zero, List.getElem_cons_succ, Act.put, List.setIfInBounds_toArray, List.set_cons_zero, List.set_cons_succ])
          refine wpAnyH_take (i := 5) (v := .bool false) rfl (by kernel_rfl) (by kernel_rfl) (by kernel_rfl) (fun _ _ _ h => h) (.inl ⟨by rfl, fun _ _ => by kernel_rfl⟩) hH ?_
          (try simp only [List.getElem_toArray, List.getElem_cons_zero, List.getElem_cons_succ, Act.put, List.setIfInBounds_toArray, List.set_cons_zero, List.set_cons_succ])
          refine wpAnyH_take (i := 6) (v := .bool false) rfl (by kernel_rfl) (by kernel_rfl) (by kernel_rfl) (fun _ _ _ h => h) (.inl ⟨by rfl, fun _ _ => by kernel_rfl⟩) hH ?_
          (try simp only [List.getElem_toArray, List.getElem_cons_zero, List.getElem_cons_succ, Act.put, List.setIfInBounds_toArray, List.set_cons_zero, List.set_cons_succ])
          refine wpAnyH_take (i := 7) (v := .int .i64 0) rfl (by kernel_rfl) (by kernel_rfl) (by kernel_rfl) (fun _ _ _ h => h) (.inl ⟨by rfl, fun _ _ => by kernel_rfl⟩) hH ?_
          (try simp only [List.getElem_toArray, List.getElem_cons_zero, List.getElem_cons_succ, Act.put, List.setIfInBounds_toArray, List.set_cons_zero, List.set_cons_succ])
          refine wpAnyH_take (i := 8) (v := .bool false) rfl (by kernel_rfl) (by kernel_rfl) (by kernel_rfl) (fun _ _ _ h => h) (.inl ⟨by rfl, fun _ _ => by kernel_rfl⟩) hH ?_
          (try simp only [List.getElem_toArray, List.getElem_cons_zero, List.getElem_cons_succ, Act.put, List.setIfInBounds_toArray, List.set_cons_zero, List.set_cons_succ])
          refine wpAnyH_take (i := 9) (v := .bool false) rfl (by kernel_rfl) (by kernel_rfl) (by kernel_rfl) (fun _ _ _ h => h) (.inl ⟨by rfl, fun _ _ => by kernel_rfl⟩) hH ?_
          (try simp only [List.getElem_toArray, List.getElem_cons_zero, List.getElem_cons_succ, Act.put, List.setIfInBounds_toArray, List.set_cons_zero, List.set_cons_succ])
          refine wpAnyH_take (i := 10) (v := .bool false) rfl (by kernel_rfl) (by kernel_rfl) (by kernel_rfl) (fun _ _ _ h => h) (.inl ⟨by rfl, fun _ _ => by kernel_rfl⟩) hH ?_
          (try simp only [List.getElem_toArray, List.getElem_cons_zero, List.getElem_cons_succ, Act.put, List.setIfInBounds_toArray, List.set_cons_zero, List.set_cons_succ])
          refine wpAnyH_take (i := 11) (v := .int .i64 0) rfl (by kernel_rfl) (by kernel_rfl) (by kernel_rfl) (fun _ _ _ h => h) (.inl ⟨by rfl, fun _ _ => by kernel_rfl⟩) hH ?_
          (try simp only [List.getElem_toArray, List.getElem_cons_zero, List.getElem_cons_succ, Act.put, List.setIfInBounds_toArray, List.set_cons_zero, List.set_cons_succ])
          refine wpAnyH_take (i := 12) (v := .bool false) rfl (by kernel_rfl) (by kernel_rfl) (by kernel_rfl) (fun _ _ _ h => h) (.inl ⟨by rfl, fun _ _ => by kernel_rfl⟩) hH ?_
          (try simp only [List.getElem_toArray, List.getElem_cons_zero, List.getElem_cons_succ, Act.put, List.setIfInBounds_toArray, List.set_cons_zero, List.set_cons_succ])
          refine wpAnyH_take (i := 13) (v := .bool false) rfl (by kernel_rfl) (by kernel_rfl) (by kernel_rfl) (fun _ _ _ h => h) (.inl ⟨by rfl, fun _ _ => by kernel_rfl⟩) hH ?_
          (try simp only [List.getElem_toArray, List.getElem_cons_zero, List.getElem_cons_succ, Act.put, List.setIfInBounds_toArray, List.set_cons_zero, List.set_cons_succ])
          refine wpAnyH_take (i := 14) (v := .bool false) rfl (by kernel_rfl) (by kernel_rfl) (by kernel_rfl) (fun _ _ _ h => h) (.inl ⟨by rfl, fun _ _ => by kernel_rfl⟩) hH ?_
          (try simp only [List.getElem_toArray, List.getElem_cons_zero, List.getElem_cons_succ, Act.put, List.setIfInBounds_toArray, List.set_cons_zero, List.set_cons_succ])
          refine wpAnyH_take (i := 15) (v := .slice (some ⟨E1, 0, none⟩) 1 1) rfl (by kernel_rfl) (by kernel_rfl) (by kernel_rfl) (fun _ _ _ h => h) (.inl ⟨by rfl, fun _ _ => by kernel_rfl⟩) hH ?_
          (try simp only [List.getElem_toArray, List.getElem_cons_zero, List.getElem_cons_succ, Act.put, List.setIfInBounds_toArray, List.set_cons_zero, List.set_cons_succ])
          refine wpAnyH_take (i := 16) (v := .int .i64 1) rfl (by kernel_rfl) (by kernel_rfl) (by kernel_rfl) (fun _ _ _ h => h) (.inl ⟨by rfl, fun _ _ => by kernel_rfl⟩) hH ?_
          (try simp only [List.getElem_toArray, List.getElem_cons_zero, List.getElem_cons_succ, Act.put, List.setIfInBounds_toArray, List.set_cons_zero, List.set_cons_succ])
          refine wpAnyH_take (i := 17) (v := .bool false) rfl (by kernel_rfl) (by kernel_rfl) (by kernel_rfl) (fun _ _ _ h => h) (.inl ⟨by rfl, fun _ _ => by kernel_rfl⟩) hH ?_
          (try simp only [List.getElem_toArray, List.getElem_cons_zero, List.getElem_cons_succ, Act.put, List.setIfInBounds_toArray, List.set_cons_zero, List.set_cons_succ])
          refine wpAnyH_take (i := 18) (v := .bool false) rfl (by kernel_rfl) (by kernel_rfl) (by kernel_rfl) (fun _ _ _ h => h) (.inl ⟨by rfl, fun _ _ => by kernel_rfl⟩) hH ?_
          (try simp only [List.getElem_toArray, List.getElem_cons_zero, List.getElem_cons_succ, Act.put, List.setIfInBounds_toArray, List.set_cons_zero, List.set_cons_succ])
          refine wpAnyH_take (i := 19) (v := .bool false) rfl (by kernel_rfl) (by kernel_rfl) (by kernel_rfl) (fun _ _ _ h => h) (.inl ⟨by rfl, fun _ _ => by kernel_rfl⟩) hH ?_
          (try simp only [List.getElem_toArray, List.getElem_cons_zero, List.getElem_cons_succ, Act.put, List.setIfInBounds_toArray, List.set_cons_zero, List.set_cons_succ])
          refine wpAnyH_take (i := 20) (v := .slice (some ⟨E1, 0, none⟩) 1 1) rfl (by kernel_rfl) (by kernel_rfl) (by kernel_rfl) (fun _ _ _ h => h) (.inl ⟨by rfl, fun _ _ => by kernel_rfl⟩) hH ?_
          (try simp only [List.getElem_toArray, List.getElem_cons_zero, List.getElem_cons_succ, Act.put, List.setIfInBounds_toArray, List.set_cons_zero, List.set_cons_succ])
          refine wpAnyH_take (i := 21) (v := .pointer (some ⟨E1, 0 + 0 * 1, none⟩)) rfl (by kernel_rfl) (by kernel_rfl) (by kernel_rfl) (fun _ _ _ h => h) (yieldsIf_indexT (k := 0) Try.underlying30 szIntsT (by rfl) _ _ rfl rfl rfl (by decide)) hH ?_
          (try simp only [List.getElem_toArray, List.getElem_cons_zero, List.getElem_cons_succ, Act.put, List.setIfInBounds_toArray, List.set_cons_zero, List.set_cons_succ])
          refine wpAnyH_take (i := 22) (v := .int .i64 ((m1 : Nat) : Int)) rfl (by kernel_rfl) (by kernel_rfl) (by kernel_rfl) (fun _ _ _ h => h) (yieldsIf_loadP (by rfl) _ rfl rfl (fun _ q => by subst q; exact load_intT q1)) hH ?_
          (try simp only [List.getElem_toArray, List.getElem_cons_zero, List.getElem_cons_succ, Act.put, List.setIfInBounds_toArray, List.set_cons_zero, List.set_cons_succ])
          refine wpAnyH_take (i := 23) (v := .slice (some ⟨E, 0, none⟩) k k) rfl (by kernel_rfl) (by kernel_rfl) (by kernel_rfl) (fun _ _ _ h => h) (.inl ⟨by rfl, fun _ _ => by kernel_rfl⟩) hH ?_
          (try simp only [List.getElem_toArray, List.getElem_cons_zero, List.getElem_cons_succ, Act.put, List.setIfInBounds_toArray, List.set_cons_zero, List.set_cons_succ])
          refine wpAnyH_take (i := 24) (v := .int .i64 ((i : Nat) : Int)) rfl (by kernel_rfl) (by kernel_rfl) (by kernel_rfl) (fun _ _ _ h => h) (.inl ⟨by rfl, fun _ _ => by kernel_rfl⟩) hH ?_
          (try simp only [List.getElem_toArray, List.getElem_cons_zero, List.getElem_cons_succ, Act.put, List.setIfInBounds_toArray, List.set_cons_zero, List.set_cons_succ])
          refine wpAnyH_take (i := 25) (v := .pointer (some ⟨E, 0 + i * 1, none⟩)) rfl (by kernel_rfl) (by kernel_rfl) (by kernel_rfl) (fun _ _ _ h => h) (yieldsIf_indexT (k := i) Try.underlying30 szIntsT (by rfl) _ _ rfl rfl rfl hlt) hH ?_
          (try simp only [List.getElem_toArray, List.getElem_cons_zero, List.getElem_cons_succ, Act.put, List.setIfInBounds_toArray, List.set_cons_zero, List.set_cons_succ])
          refine wpAnyH_take (i := 26) (v := .int .i64 ((m1 : Nat) : Int)) rfl (by kernel_rfl) (by kernel_rfl) (by kernel_rfl) (fun _ _ _ h => h) (yieldsIf_loadP (by rfl) _ rfl rfl (fun _ q => by subst q; exact load_intT q2)) hH ?_
          (try simp only [List.getElem_toArray, List.getElem_cons_zero, List.getElem_cons_succ, Act.put, List.setIfInBounds_toArray, List.set_cons_zero, List.set_cons_succ])
          refine wpAnyH_take (i := 27) (v := .bool false) rfl (by kernel_rfl) (by kernel_rfl) (by kernel_rfl) (fun _ _ _ h => h) (yieldsIf_neqT (by rfl) _ _ rfl rfl rfl u1) hH ?_
          (try simp only [List.getElem_toArray, List.getElem_cons_zero, List.getElem_cons_succ, Act.put, List.setIfInBounds_toArray, List.set_cons_zero, List.set_cons_succ])
          refine wpAnyH_take (i := 28) (v := .bool false) rfl (by kernel_rfl) (by kernel_rfl) (by kernel_rfl) (fun _ _ _ h => h) (.inl ⟨by rfl, fun _ _ => by kernel_rfl⟩) hH ?_
          (try simp only [List.getElem_toArray, List.getElem_cons_zero, List.getElem_cons_succ, Act.put, List.setIfInBounds_toArray, List.set_cons_zero, List.set_cons_succ])
          refine wpAnyH_done (by kernel_rfl) ?_ _
          clear hH q1 q2 u1
          have BD1 : Hid (Below w8.heap.size w8 wd.drew) := below_drewN (HB.out.trans (BD.out.mono hbs)) 1
          have BDW : Hid (Below w.heap.size w wd.drew) := below_drewN (HBW.out.trans (BD.out.mono HBW.out.size)) 1
          have HD10 := Lib.hid (HD1.out 1)
          have HD20 := Lib.hid (HD2.out 1)
          obtain ⟨we, hwe⟩ : ∃ x, wd.drew = x := ⟨_, rfl⟩
          have HD10 : Hid (Calls Try.prog 19 #[.slice VA vn vc, .slice XA xn xc] we fun e w' => e = .returned (.int .u64 (fa : Nat)) ∧ we = w') := by show Calls _ _ _ _ _; rw [← hwe]; exact HD10.out
          have HD20 : Hid (Calls Try.prog 19 #[.slice VA vn vc, .slice YA yn yc] we fun e w' => e = .returned (.int .u64 (fb : Nat)) ∧ we = w') := by show Calls _ _ _ _ _; rw [← hwe]; exact HD20.out
          rw [hwe] at BD1 BDW ⊢
          clear hwe HD1 HD2 BD
          by_cases h58 : 288230376151711744 < fa
          · have v1 : decide ((288230376151711744 : Int) < (fa : Int)) = true := by simp; omega
            go_wp2_with (first
              | (go_at_call 19; (with_reducible refine HD10.out.mono ?_); rintro e w' ⟨rfl, rfl⟩)
              | (go_at_call 19; (with_reducible refine HD20.out.mono ?_); rintro e w' ⟨rfl, rfl⟩))
            go_ret
            exact ⟨rfl, BDW.out⟩
          · have v1 : decide ((288230376151711744 : Int) < (fa : Int)) = false := by simp; omega
            by_cases h59 : 288230376151711744 < fb
            · have v2 : decide ((288230376151711744 : Int) < (fb : Int)) = true := by simp; omega
              clear h58
              go_wp2_with (first
                | (go_at_call 19; (with_reducible refine HD10.out.mono ?_); rintro e w' ⟨rfl, rfl⟩)
                | (go_at_call 19; (with_reducible refine HD20.out.mono ?_); rintro e w' ⟨rfl, rfl⟩))
              go_ret
              exact ⟨rfl, BDW.out⟩
            · have v2 : decide ((288230376151711744 : Int) < (fb : Int)) = false := by simp; omega
              have ha2 : a + fa ≤ (i + 1) * 288230376151711744 := by omega
              have hb2 : b + fb ≤ (i + 1) * 288230376151711744 := by omega
              have W1 := Lib.hid (show IntKind.u64.wrap ((a : Int) + (fa : Int)) = ((a + fa : Nat) : Int) by rw [wrap_u64]; omega)
              have W2 := Lib.hid (show IntKind.u64.wrap ((b : Int) + (fb : Int)) = ((b + fb : Nat) : Int) by rw [wrap_u64]; omega)
              have HS2 : Hid (a + fa = sumK f (vxs l) (i + 1) ∧ b + fb = sumK h (vxs l) (i + 1)) := ⟨HSA.out.symm, HSB.out.symm⟩
              clear h58 h59 HSA HSB HFA HFB HS ha hb
              have wv1 := W1.out
              have wv2 := W2.out
              go_wp2_with (first
                | (go_at_call 19; (with_reducible refine HD10.out.mono ?_); rintro e w' ⟨rfl, rfl⟩)
                | (go_at_call 19; (with_reducible refine HD20.out.mono ?_); rintro e w' ⟨rfl, rfl⟩))
              clear wv1 wv2 v1 v2
              go_roundw
              case rel => exact ⟨i + 1, a + fa, b + fb, by omega, ha2, hb2, by go_num, rfl, rfl, HS2, BD1⟩
              case measure => simp [intOf]; omega
        · obtain rfl : i = k := by omega
          have HC1 := Lib.hid (cl_cost A i c l A2 n2 c2 l2 wr HTr.out.vs HTr.out.k1.2.2.1 hn h1 h2 hc2)
          have HC2 := Lib.hid (fun (W : World) (hb : Below wr.heap.size wr W) => cl_cost A i c l (some ⟨O, 0, none⟩) n2 n2 l3 W (HTr.out.below hb).vs (HTr.out.below hb).k2.2.2.1 hn h1 h2 (Nat.le_refl _))
          have hl30 : (vxs l).length ≤ 30 := by rw [HVL.out]; exact hn
          have ha30 : a ≤ 30 * 288230376151711744 := Nat.le_trans ha (Nat.mul_le_mul_right _ hn)
          have hb30 : b ≤ 30 * 288230376151711744 := Nat.le_trans hb (Nat.mul_le_mul_right _ hn)
          have ea : costL (vxs l) (vxs l2) = a := by
            have := cost_sum (cs := vxs l2) hl30 (by rw [hf, HVL.out, ← HS.out.1]; exact ha30)
            rw [this, hf, HVL.out, HS.out.1]
          have eb : costL (vxs l) (vxs l3) = b := by
            have := cost_sum (cs := vxs l3) hl30 (by rw [hh, HVL.out, ← HS.out.2]; exact hb30)
            rw [this, hh, HVL.out, HS.out.2]
          have hle : b ≤ a := by
            have := step_le d (vxs l) (vxs l2) (by rw [vxs_len, HLN2.out]; omega)
            rw [← HX3.out, hh, hf] at this
            rw [HS.out.1, HS.out.2, ← HVL.out, sumK_all, sumK_all]
            exact this
          rw [ea] at HC1
          rw [eb] at HC2
          have v1 : ((a : Int) == (a : Int)) = true := by simp
          have v2 : ((b : Int) == (b : Int)) = true := by simp
          have v3 : decide ((b : Int) ≤ (a : Int)) = true := by simp; omega
          have HLE := Lib.hid (decide_eq_true hle)
          clear ea eb hle hl30 HS HTr ha hb ha30 hb30
          go_wp2_with (first
            | (go_at_call 20; (with_reducible refine HC1.out.mono ?_); rintro e x1 ⟨rfl, hb1⟩; have D1 := Lib.hid hb1; clear hb1)
            | (go_at_call 20; (with_reducible refine (HC2.out x1 D1.out).mono ?_); rintro e x2 ⟨rfl, hb2⟩; have D2 : Hid (Below wr.heap.size wr x2) := D1.out.trans (hb2.mono D1.out.size); clear hb2))
          go_ret
          exact ⟨ret_bool HLE.out, HBW.out.trans (D2.out.mono HBW.out.size)⟩
theorem trained_any (A : Option Addr) (n c : Nat) (l : List Vc) (A2 : Option Addr) (n2 c2 : Nat) (l2 : List Vc) (w : World) (hl : Vcs w w.heap.size A n l) (hl2 : Vcs w w.heap.size A2 n2 l2) (hc2 : n2 ≤ c2) :
    Calls Try.prog 4 #[.slice A n c, .slice A2 n2 c2] w fun e w' => e = .returned (.bool true) ∧ Below w.heap.size w w' := by
  by_cases h : 30 < n ∨ n2 < 1 ∨ 30 < n2
  · exact trained_out A n c A2 n2 c2 w h
  · cases hr : rightL (vxs l2) with
    | false => exact trained_bad A n c A2 n2 c2 l2 w hl2 hc2 (by omega) (by omega) (by omega) hr
    | true => exact trained_walk A n c l A2 n2 c2 l2 w hl hl2 hc2 (by omega) (by omega) (by omega) hr
end Go.Proofs.Ytlmgfbhgamchgaa
