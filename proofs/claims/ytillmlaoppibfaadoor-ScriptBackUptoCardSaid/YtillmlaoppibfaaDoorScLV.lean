/- Scripts: lives. -/
import Derived.Test.YtillmlaoppibfaaDoorScLP
import Derived.Test.YtillmlaoppibfaaDoorScK
import Derived.Test.YtillmlaoppibfaaDoorScJ
namespace Go.Proofs.YtillmlaoppibfaaDoor
open Go.RowKit Go.Sort
theorem PaS.len8 {w : World} {l : List SAct} {css : List (List Value)} (h2 : css.length = l.length) (h3 : ∀ (i : Nat) (a : SAct), l[i]? = some a → ∃ V vn vc, css[i]? = some (actC a V vn vc) ∧ VecT w V vn vc a.vec ∧ vn ≤ 1048576 ∧ a.Rng) : ∀ c ∈ css, c.length = 8 := fun c hc => by
  obtain ⟨i, hi⟩ := List.mem_iff_getElem?.1 hc
  have hlt : i < l.length := by rw [← h2]; exact (List.getElem?_eq_some_iff.1 hi).1
  obtain ⟨V, vn, vc, k1, _⟩ := h3 i l[i] (List.getElem?_eq_getElem hlt)
  rw [k1] at hi
  injection hi with hi
  rw [← hi]
  rfl
/-- Acts of the call's own are acts at hand. -/
theorem PaS.acs {w : World} {B : Nat} {v : Value} {l : List SAct} (h : PaS w B v l) : ∃ A cp, v = .slice A l.length cp ∧ l.length ≤ cp ∧ AcsAt w w.heap.size A l.length l ∧ (0 < l.length → ∃ g, A = some ⟨g, 0, none⟩) := by
  obtain ⟨css, h1, h2, h3⟩ := h
  have h8 := PaS.len8 h2 h3
  have hv : ∀ (i : Nat) (a : SAct), l[i]? = some a → ∃ V vn vc, css[i]? = some (actC a V vn vc) ∧ vn ≤ vc ∧ vn ≤ 1048576 ∧ Rd w w.heap.size V vn (a.vec.map (.int .i32)) ∧ a.Rng := fun i a hi => by
    obtain ⟨V, vn, vc, k1, k2, k3, k4⟩ := h3 i a hi
    exact ⟨V, vn, vc, k1, k2.2, k3, Rd.of_own k2.1, k4⟩
  rcases Nat.eq_zero_or_pos l.length with h0 | h0
  · rcases h1.2 with ⟨e, _⟩ | ⟨g, cap, cur, e, _, _, hle, _⟩
    · refine ⟨none, 0, by rw [e, h0], by omega, ⟨css, ⟨h2, h8, fun q => absurd q (by omega)⟩, rfl, hv⟩, fun q => absurd q (by omega)⟩
    · exact ⟨_, cap, e, hle, ⟨css, ⟨h2, h8, fun q => absurd q (by omega)⟩, rfl, hv⟩, fun q => absurd q (by omega)⟩
  · obtain ⟨g, cap, e, _, _, hr⟩ := Rs.of_own h1 h8 h2 h0
    have hle : l.length ≤ cap := by
      rcases h1.2 with ⟨_, q⟩ | ⟨g', cap', cur, e', _, _, hle, _⟩
      · omega
      · rw [e] at e'
        injection e' with _ _ q
        rw [q]; exact hle
    exact ⟨_, cap, e, hle, ⟨css, hr, rfl, hv⟩, fun _ => ⟨g, rfl⟩⟩
/-- A text that is right, read. -/
theorem parse_ok {s : List UInt8} {c : SCfg} {gs : List (SAct × Nat)} (h : prsO s = .inr (c, gs)) (hs : s.length ≤ 140737488355328) (W : World) (he : Env W) :
    Calls Tryd.prog 6 #[.string ⟨s.toArray⟩] W fun e w' => ∃ A cp, e = .returned (.tuple #[c.v, .slice A (expand gs).length cp, .int .i64 0, .int .i64 0]) ∧ (expand gs).length ≤ cp ∧ PaS w' W.heap.size (.slice A (expand gs).length cp) (expand gs) ∧ Below W.heap.size W w' := by
  refine (sc_parse s W he hs).mono ?_
  rintro e w' ⟨hb, hm⟩
  rw [h] at hm
  obtain ⟨v, rfl, hp⟩ := hm
  obtain ⟨A, cp, rfl, hle, _⟩ := hp.acs
  exact ⟨A, cp, rfl, hle, hp, hb⟩
/-- A text that is not right, read. -/
theorem parse_no {s : List UInt8} {no : Nat} {why : Int} (h : prsO s = .inl (no, why)) (hs : s.length ≤ 140737488355328) (W : World) (he : Env W) :
    Calls Tryd.prog 6 #[.string ⟨s.toArray⟩] W fun e w' => e = .returned (.tuple #[.agg #[.int .i64 0, .int .i64 0, .int .i64 0, .int .i64 0, .int .i64 0], .slice none 0 0, .int .i64 (no : Nat), .int .i64 why]) ∧ Below W.heap.size W w' := by
  refine (sc_parse s W he hs).mono ?_
  rintro e w' ⟨hb, hm⟩
  rw [h] at hm
  exact ⟨hm, hb⟩
/-- What lies between the steps. -/
structure LvS (w W : World) (C g vb ob vc : Nat) : Prop where
  be : Below w.heap.size w W
  cf : Blk W C 23 #[.int .i64 1, .int .i64 2, .int .i64 1, .int .i64 1, .int .i64 1]
  ac : AcsAt W W.heap.size (some ⟨g, 0, none⟩) 5 (expand gx1)
  x1 : W.cell? ⟨g, 26, none⟩ = some (.int .u64 7)
  x2 : W.cell? ⟨g, 27, none⟩ = some (.slice (some ⟨vb, ob, none⟩) 1 vc)
  x3 : W.cell? ⟨vb, ob, none⟩ = some (.int .i32 (-5))
  x4 : W.cell? ⟨g, 37, none⟩ = some (.int .i64 2)
  gl : g < W.heap.size
  vl : vb < W.heap.size
theorem LvS.below {w W W' : World} {C g vb ob vc : Nat} (h : LvS w W C g vb ob vc) (hb : Below W.heap.size W W') : LvS w W' C g vb ob vc :=
  ⟨h.be.trans (hb.mono h.be.size), h.cf.below hb h.cf.lt, (h.ac.below hb).more hb.size, (hb.cell (p := ⟨g, 26, none⟩) h.gl).trans h.x1, (hb.cell (p := ⟨g, 27, none⟩) h.gl).trans h.x2, (hb.cell (p := ⟨vb, ob, none⟩) h.vl).trans h.x3, (hb.cell (p := ⟨g, 37, none⟩) h.gl).trans h.x4, Nat.lt_of_lt_of_le h.gl hb.size, Nat.lt_of_lt_of_le h.vl hb.size⟩
theorem LvS.first {w W : World} {B cp : Nat} {A : Option Addr} (h : PaS W B (.slice A (expand gx1).length cp) (expand gx1)) (hb : Below w.heap.size w W) :
    ∃ g vb ob vc, A = some ⟨g, 0, none⟩ ∧ LvS w (W.alloc (.cells #[.int .i64 1, .int .i64 2, .int .i64 1, .int .i64 1, .int .i64 1] 23)) W.heap.size g vb ob vc := by
  obtain ⟨A', cp', e, _, hac, hg⟩ := h.acs
  obtain ⟨g, hg⟩ := hg (by decide)
  injection e with e _ _
  subst e
  subst hg
  obtain ⟨b3, o3, V3, vn3, vc3, e3, hb3, r3, _, _, hrd, _⟩ := hac.at_ (i := 3) (a := ⟨0, 1, 7, [-5], 1, 0, 0, 0⟩) rfl
  obtain ⟨b4, o4, V4, vn4, vc4, e4, _, r4, _, _, _, _⟩ := hac.at_ (i := 4) (a := ⟨0, 4, 0, [9], 0, 2, 0, 0⟩) rfl
  injection e3 with e3
  injection e3 with p1 p2
  subst p1
  subst p2
  injection e4 with e4
  injection e4 with p1 p2
  subst p1
  subst p2
  have hv1 : vn3 = 1 := by have := hrd.lenI; simpa using this.symm
  subst hv1
  obtain ⟨vb, ob, rfl, hvb, hvc⟩ := hrd.2 (by omega)
  have q26 : W.cell? ⟨g, 26, none⟩ = some (.int .u64 7) := r3 2 (.int .u64 7) rfl
  have q27 : W.cell? ⟨g, 27, none⟩ = some (.slice (some ⟨vb, ob, none⟩) 1 vc3) := r3 3 (.slice (some ⟨vb, ob, none⟩) 1 vc3) rfl
  have q37 : W.cell? ⟨g, 37, none⟩ = some (.int .i64 2) := r4 5 (.int .i64 2) rfl
  have q0 : W.cell? ⟨vb, ob, none⟩ = some (.int .i32 (-5)) := hvc 0 (.int .i32 (-5)) rfl
  have hx := bel_boxX W (.cells #[.int .i64 1, .int .i64 2, .int .i64 1, .int .i64 1, .int .i64 1] 23)
  refine ⟨g, vb, ob, vc3, rfl, hb.trans (hx.mono hb.size), Blk.new _ _ _, (hac.below hx).more hx.size, (hx.cell (p := ⟨g, 26, none⟩) hb3).trans q26, (hx.cell (p := ⟨g, 27, none⟩) hb3).trans q27, (hx.cell (p := ⟨vb, ob, none⟩) hvb).trans q0, (hx.cell (p := ⟨g, 37, none⟩) hb3).trans q37, Nat.lt_of_lt_of_le hb3 hx.size, Nat.lt_of_lt_of_le hvb hx.size⟩
set_option maxHeartbeats 16000000 in
set_option maxRecDepth 100000 in
theorem lives34 (w : World) (he : Env w) :
    Calls Tryd.prog 4 #[] w fun e w' => e = .returned (.bool true) ∧ Below w.heap.size w w' := by
  have HE := Lib.hid he
  obtain ⟨R, hR⟩ : ∃ R : Ending → World → Prop, R = fun e w' => e = .returned (.bool true) ∧ Below w.heap.size w w' := ⟨_, rfl⟩
  rw [← hR]
  have HR := Lib.hid hR
  have HP1 := Lib.hid (parse_ok prs1 (by decide) w he)
  clear he hR
  unfold SCfg.v cx1 at HP1
  simp only [show (expand gx1).length = 5 from rfl] at HP1
  go_enter Tryd.func4, Tryd.ntmps4
  go_wp2_with (go_at_call 6; refine HP1.out.mono ?_)
  first | rintro e w1 A cp rfl hle hpa hb1 | rintro e w1 ⟨A, cp, rfl, hle, hpa, hb1⟩
  obtain ⟨g, vb, ob, vc, hA, hL⟩ := LvS.first hpa hb1
  subst hA
  obtain ⟨C, hC⟩ : ∃ C, w1.heap.size = C := ⟨_, rfl⟩
  obtain ⟨y1, hy1⟩ : ∃ W, w1.alloc (.cells #[.int .i64 1, .int .i64 2, .int .i64 1, .int .i64 1, .int .i64 1] 23) = W := ⟨_, rfl⟩
  rw [hy1, hC] at hL
  have HL1 := Lib.hid hL
  have HTX1 := sc_text cx1 (some ⟨g, 0, none⟩) 5 cp (expand gx1) y1 (HE.out.on hL.be) hL.ac (by omega) hle
  have HTX1 : Hid (Calls Tryd.prog 5 #[.agg #[.int .i64 1, .int .i64 2, .int .i64 1, .int .i64 1, .int .i64 1], .slice (some ⟨g, 0, none⟩) 5 cp] y1 fun e w' => e = .returned (.tuple #[.string ⟨sx1.toArray⟩, .int .i64 0]) ∧ Below y1.heap.size y1 w') := HTX1.mono fun e w' ⟨q1, q2⟩ => ⟨by rw [q2, tx1]; rfl, q1⟩
  have LD : (Instr.loadAt 23 (.pointer (some ⟨C, 0, none⟩))).run Tryd.prog y1 = .ok (.agg #[.int .i64 1, .int .i64 2, .int .i64 1, .int .i64 1, .int .i64 1]) y1 := loadF_cfg hL.cf rfl
  have HY := Lib.hid hy1
  have HC := Lib.hid hC
  clear hpa hb1 hL hy1 hC HP1
  go_upto_region 2 with fail
  rw [HY.out, HC.out]
  clear HY HC
  go_wp2_with (first | refine wpList_loadE LD _ rfl rfl rfl ?_ | (go_at_call 5; refine HTX1.out.mono ?_))
  first | rintro e w2 rfl hb2 | rintro e w2 ⟨rfl, hb2⟩
  have HL2 := Lib.hid (HL1.out.below hb2)
  clear hb2 LD HTX1 HL1
  have HP3 := Lib.hid (parse_no prs2 (by decide) w2 (HE.out.on HL2.out.be))
  go_wp2_with (go_at_call 6; refine HP3.out.mono ?_)
  first | rintro e w3 rfl hb3 | rintro e w3 ⟨rfl, hb3⟩
  have hx3 := bel_boxX w3 (.cells #[.int .i64 0, .int .i64 0, .int .i64 0, .int .i64 0, .int .i64 0] 23)
  have hL3 := (HL2.out.below hb3).below hx3
  obtain ⟨y3, hy3⟩ : ∃ W, w3.alloc (.cells #[.int .i64 0, .int .i64 0, .int .i64 0, .int .i64 0, .int .i64 0] 23) = W := ⟨_, rfl⟩
  rw [hy3] at hL3
  have HL3 := Lib.hid hL3
  have HY3 := Lib.hid hy3
  clear hb3 hx3 hL3 hy3 HL2 HP3
  go_upto_region 4 with fail
  rw [HY3.out]
  clear HY3
  have HP4 := Lib.hid (parse_no prs3 (by decide) y3 (HE.out.on HL3.out.be))
  go_wp2_with (go_at_call 6; refine HP4.out.mono ?_)
  first | rintro e w4 rfl hb4 | rintro e w4 ⟨rfl, hb4⟩
  have hx4 := bel_boxX w4 (.cells #[.int .i64 0, .int .i64 0, .int .i64 0, .int .i64 0, .int .i64 0] 23)
  have hL4 := (HL3.out.below hb4).below hx4
  obtain ⟨y4, hy4⟩ : ∃ W, w4.alloc (.cells #[.int .i64 0, .int .i64 0, .int .i64 0, .int .i64 0, .int .i64 0] 23) = W := ⟨_, rfl⟩
  rw [hy4] at hL4
  have HL4 := Lib.hid hL4
  have HY4 := Lib.hid hy4
  clear hb4 hx4 hL4 hy4 HL3 HP4
  go_upto_region 5 with fail
  rw [HY4.out]
  clear HY4
  have HP5 := Lib.hid (parse_no prs4 (by decide) y4 (HE.out.on HL4.out.be))
  go_wp2_with (go_at_call 6; refine HP5.out.mono ?_)
  first | rintro e w5 rfl hb5 | rintro e w5 ⟨rfl, hb5⟩
  have hx5 := bel_boxX w5 (.cells #[.int .i64 0, .int .i64 0, .int .i64 0, .int .i64 0, .int .i64 0] 23)
  have hL5 := (HL4.out.below hb5).below hx5
  obtain ⟨y5, hy5⟩ : ∃ W, w5.alloc (.cells #[.int .i64 0, .int .i64 0, .int .i64 0, .int .i64 0, .int .i64 0] 23) = W := ⟨_, rfl⟩
  rw [hy5] at hL5
  have HL5 := Lib.hid hL5
  have HY5 := Lib.hid hy5
  clear hb5 hx5 hL5 hy5 HL4 HP5
  go_upto_region 6 with fail
  rw [HY5.out]
  clear HY5
  have HP6 := Lib.hid (parse_no prs5 (by decide) y5 (HE.out.on HL5.out.be))
  go_wp2_with (go_at_call 6; refine HP6.out.mono ?_)
  first | rintro e w6 rfl hb6 | rintro e w6 ⟨rfl, hb6⟩
  have hx6 := bel_boxX w6 (.cells #[.int .i64 0, .int .i64 0, .int .i64 0, .int .i64 0, .int .i64 0] 23)
  have hL6 := (HL5.out.below hb6).below hx6
  obtain ⟨y7, hy7⟩ : ∃ W, w6.alloc (.cells #[.int .i64 0, .int .i64 0, .int .i64 0, .int .i64 0, .int .i64 0] 23) = W := ⟨_, rfl⟩
  rw [hy7] at hL6
  have HL7 := Lib.hid hL6
  have HY6 := Lib.hid hy7
  clear hb6 hx6 hL6 hy7 HL5 HP6
  go_upto_region 7 with fail
  rw [HY6.out]
  clear HY6
  have HTX2 : Hid (∀ W, LvS w W C g vb ob vc → Calls Tryd.prog 5 #[.agg #[.int .i64 1, .int .i64 2, .int .i64 1, .int .i64 1, .int .i64 1], .slice (some ⟨W.heap.size, 0, none⟩) 1 1] (W.alloc (.cells #[.int .i64 65, .int .i64 0, .int .u64 0, .slice none 0 0, .int .u64 0, .int .i64 0, .int .i64 0, .int .u64 0] 40)) fun e w' => e = .returned (.tuple #[.string ⟨#[]⟩, .int .i64 7]) ∧ Below (W.alloc (.cells #[.int .i64 65, .int .i64 0, .int .u64 0, .slice none 0 0, .int .u64 0, .int .i64 0, .int .i64 0, .int .u64 0] 40)).heap.size (W.alloc (.cells #[.int .i64 65, .int .i64 0, .int .u64 0, .slice none 0 0, .int .u64 0, .int .i64 0, .int .i64 0, .int .u64 0] 40)) w') := fun W hW => by
    have hx := bel_boxX W (.cells #[.int .i64 65, .int .i64 0, .int .u64 0, .slice none 0 0, .int .u64 0, .int .i64 0, .int .i64 0, .int .u64 0] 40)
    have hbk := Blk.new W 40 #[.int .i64 65, .int .i64 0, .int .u64 0, .slice none 0 0, .int .u64 0, .int .i64 0, .int .i64 0, .int .u64 0]
    refine (sc_text cx1 (some ⟨W.heap.size, 0, none⟩) 1 1 [pickA 65] _ (HE.out.on (hW.be.trans (hx.mono hW.be.size))) ?_ (by omega) (by omega)).mono fun e w' ⟨q1, q2⟩ => ⟨by rw [q2, tx2]; rfl, q1⟩
    refine ⟨[actC (pickA 65) none 0 0], ⟨rfl, fun c hc => by rw [List.mem_singleton.1 hc]; rfl, fun _ => ⟨_, 0, rfl, hbk.lt, fun i c hi => ?_⟩⟩, rfl, fun i a hi => ?_⟩
    · match i, hi with
      | 0, hi =>
        injection hi with hi
        subst hi
        exact hbk.range
      | i + 1, hi => simp at hi
    · match i, hi with
      | 0, hi =>
        injection hi with hi
        subst hi
        exact ⟨none, 0, 0, rfl, by omega, by omega, Rd.nil_, by show 0 ≤ _; omega, by show 0 ≤ _; omega, by show 0 ≤ _; omega, by simp [pickA]⟩
      | i + 1, hi => simp at hi
  have HTX3 : Hid (∀ W, LvS w W C g vb ob vc → Calls Tryd.prog 5 #[.agg #[.int .i64 0, .int .i64 0, .int .i64 0, .int .i64 0, .int .i64 0], .slice none 0 0] W fun e w' => e = .returned (.tuple #[.string ⟨#[]⟩, .int .i64 1]) ∧ Below W.heap.size W w') := fun W hW => by
    refine (sc_text cfg0 none 0 0 [] W (HE.out.on hW.be) ?_ (by omega) (by omega)).mono fun e w' ⟨q1, q2⟩ => ⟨by rw [q2, tx3]; rfl, q1⟩
    exact ⟨[], ⟨rfl, fun c hc => by simp at hc, fun q => absurd q (by omega)⟩, rfl, fun i a hi => by simp at hi⟩
  have LD7 : (Instr.loadAt 23 (.pointer (some ⟨C, 0, none⟩))).run Tryd.prog y7 = .ok (.agg #[.int .i64 1, .int .i64 2, .int .i64 1, .int .i64 1, .int .i64 1]) y7 := loadF_cfg HL7.out.cf rfl
  have HT2 := Lib.hid (HTX2.out y7 HL7.out)
  clear HTX2
  go_wp2_with (first
    | refine wpList_loadE LD7 _ rfl rfl rfl ?_
    | refine wpList_valR rfl (exec_buildA (qs := #[(0, .agg #[.int .i64 65, .int .i64 0, .int .u64 0, .slice none 0 0, .int .u64 0, .int .i64 0, .int .i64 0, .int .u64 0])]) rfl (by first | kernel_rfl | simp [Act.eval]) (run_act1 _ #[.int .i64 65, .int .i64 0, .int .u64 0, .slice none 0 0, .int .u64 0, .int .i64 0, .int .i64 0, .int .u64 0] rfl)) ?_
    | (go_at_call 5; refine HT2.out.mono ?_))
  first | rintro e w8 rfl hb8 | rintro e w8 ⟨rfl, hb8⟩
  have hx7 := bel_boxX y7 (.cells #[.int .i64 65, .int .i64 0, .int .u64 0, .slice none 0 0, .int .u64 0, .int .i64 0, .int .i64 0, .int .u64 0] 40)
  have HL8 := Lib.hid ((HL7.out.below hx7).below hb8)
  have HT3 := Lib.hid (HTX3.out w8 HL8.out)
  clear hb8 hx7 LD7 HT2 HTX3 HL7
  go_wp2_with (go_at_call 5; refine HT3.out.mono ?_)
  first | rintro e w9 rfl hb9 | rintro e w9 ⟨rfl, hb9⟩
  have hL9 := HL8.out.below hb9
  have c0 : w9.cell? ⟨C, 0, none⟩ = some (.int .i64 1) := hL9.cf.cell 0
  have c1 : w9.cell? ⟨C, 1, none⟩ = some (.int .i64 2) := hL9.cf.cell 1
  have c2 : w9.cell? ⟨C, 2, none⟩ = some (.int .i64 1) := hL9.cf.cell 2
  have c3 : w9.cell? ⟨C, 3, none⟩ = some (.int .i64 1) := hL9.cf.cell 3
  have c4 : w9.cell? ⟨C, 4, none⟩ = some (.int .i64 1) := hL9.cf.cell 4
  have z1 := hL9.x1
  have z2 := hL9.x2
  have z3 := hL9.x3
  have z4 := hL9.x4
  have HB9 := Lib.hid hL9.be
  clear hb9 hL9 HT3 HL8
  unfold sx1
  go_wp2_with fail
  rw [HR.out]
  exact ⟨rfl, HB9.out⟩
end Go.Proofs.YtillmlaoppibfaaDoor
