/- The best of all are the best of the best of two halves; a queue tells them: the walk of TopHalves. -/
import Derived.Test.YtpcbfoddlpgdjaaHpO
import Derived.Deep.CutRange
namespace Go.Proofs.Ytpcbfoddlpgdjaa
open Go.RowKit
set_option maxRecDepth 100000 in
set_option maxHeartbeats 4000000 in
/-- What is asked is too much: true. -/
theorem halves_out (q : IS) (A : Option Addr) (n c : Nat) (at_ most : Int) (w : World) (h : 60 < n ∨ at_ < 0 ∨ (n : Int) < at_ ∨ 200 < most) :
    Calls Try.prog 3 #[q.v, .slice A n c, .int .i64 at_, .int .i64 most] w fun e w' => e = .returned (.bool true) ∧ Below w.heap.size w w' := by
  have HBG := Lib.hid (begins4 w)
  by_cases h1 : 60 < n
  · have t1 : decide ((n : Int) > 60) = true := decide_eq_true (by omega)
    clear h h1
    go_enter Try.func3, Try.ntmps3
    go_wp2_with (go_at_call 7; (with_reducible refine HBG.out.mono ?_); rintro e w1 ⟨rfl, hb⟩; have HB1 := Lib.hid hb; clear hb)
    go_ret
    exact ⟨rfl, HB1.out⟩
  have t1 : decide ((n : Int) > 60) = false := decide_eq_false (by omega)
  by_cases h2 : at_ < 0
  · have t2 : decide (at_ < 0) = true := decide_eq_true h2
    clear h h1 h2
    go_enter Try.func3, Try.ntmps3
    go_wp2_with (go_at_call 7; (with_reducible refine HBG.out.mono ?_); rintro e w1 ⟨rfl, hb⟩; have HB1 := Lib.hid hb; clear hb)
    go_ret
    exact ⟨rfl, HB1.out⟩
  have t2 : decide (at_ < 0) = false := decide_eq_false h2
  by_cases h3 : (n : Int) < at_
  · have t3 : decide ((n : Int) < at_) = true := decide_eq_true h3
    clear h h1 h2 h3
    go_enter Try.func3, Try.ntmps3
    go_wp2_with (go_at_call 7; (with_reducible refine HBG.out.mono ?_); rintro e w1 ⟨rfl, hb⟩; have HB1 := Lib.hid hb; clear hb)
    go_ret
    exact ⟨rfl, HB1.out⟩
  have t3 : decide ((n : Int) < at_) = false := decide_eq_false h3
  have t4 : decide (200 < most) = true := decide_eq_true (by omega)
  clear h h1 h2 h3
  go_enter Try.func3, Try.ntmps3
  go_wp2_with (go_at_call 7; (with_reducible refine HBG.out.mono ?_); rintro e w1 ⟨rfl, hb⟩; have HB1 := Lib.hid hb; clear hb)
  go_ret
  exact ⟨rfl, HB1.out⟩
theorem take_halves {l : List Sp} {t a : Nat} (ht : t < l.length) (h : t < a) : l.take (min (t + 1) a) = l.take (min t a) ++ [sg l t] ∧ (l.take (t + 1)).drop a = (l.take t).drop a := by
  constructor
  · rw [Nat.min_eq_left (by omega), Nat.min_eq_left (by omega)]
    exact take_stepX (sg_at ht)
  · rw [List.drop_eq_nil_of_le (by rw [List.length_take]; omega), List.drop_eq_nil_of_le (by rw [List.length_take]; omega)]
theorem take_halves2 {l : List Sp} {t a : Nat} (ht : t < l.length) (h : a ≤ t) : l.take (min (t + 1) a) = l.take (min t a) ∧ (l.take (t + 1)).drop a = (l.take t).drop a ++ [sg l t] := by
  constructor
  · rw [Nat.min_eq_right (by omega), Nat.min_eq_right h]
  · rw [take_stepX (sg_at ht), List.drop_append_of_le_length (by rw [List.length_take]; omega)]
theorem take_min_len {l : List Sp} (m : Nat) : l.take (min m l.length) = l.take m := by
  rcases Nat.le_total m l.length with h | h
  · rw [Nat.min_eq_left h]
  · rw [Nat.min_eq_right h, List.take_length, List.take_of_length_le h]
theorem five {α : Type} {a b c d e : α} {P : Nat → α → Prop} (h0 : P 0 a) (h1 : P 1 b) (h2 : P 2 c) (h3 : P 3 d) (h4 : P 4 e) : ∀ (i : Nat) (x : α), [a, b, c, d, e][i]? = some x → P i x := by
  intro i x hi
  rcases i with _ | _ | _ | _ | _ | i
  · injection hi with hi; subst hi; exact h0
  · injection hi with hi; subst hi; exact h1
  · injection hi with hi; subst hi; exact h2
  · injection hi with hi; subst hi; exact h3
  · injection hi with hi; subst hi; exact h4
  · cases hi
set_option maxRecDepth 100000 in
set_option maxHeartbeats 16000000 in
theorem halves (q : IS) (A : Option Addr) (n c : Nat) (its : List ItX) (at_ most : Int) (w : World) (hq : q.Vec w w.heap.size) (hI : Its w w.heap.size A n its) :
    Calls Try.prog 3 #[q.v, .slice A n c, .int .i64 at_, .int .i64 most] w fun e w' => e = .returned (.bool true) ∧ Below w.heap.size w w' := by
  by_cases hout : 60 < n ∨ at_ < 0 ∨ (n : Int) < at_ ∨ 200 < most
  · exact halves_out q A n c at_ most w hout
  obtain ⟨a, rfl⟩ : ∃ a : Nat, at_ = (a : Int) := ⟨at_.toNat, by omega⟩
  have hn : n ≤ 60 := by omega
  have han : a ≤ n := by omega
  have HBG := Lib.hid (begins4 w)
  have t1 : decide ((n : Int) > 60) = false := decide_eq_false (by omega)
  have t2 : decide ((a : Int) < 0) = false := decide_eq_false (by omega)
  have t3 : decide (n < a) = false := decide_eq_false (by omega)
  have t4 : decide (200 < most) = false := decide_eq_false (by omega)
  have HI := Lib.hid hI
  have HQ := Lib.hid hq
  have HN : Hid (n ≤ 60 ∧ a ≤ n ∧ most ≤ 200) := by refine ⟨hn, han, ?_⟩; omega
  have HIL := Lib.hid hI.len
  obtain ⟨m, hm⟩ : ∃ m : Nat, min (max most 0) 4096 = (m : Int) := ⟨(min (max most 0) 4096).toNat, by omega⟩
  have HMX := Lib.hid hm
  have HM : Hid (m ≤ 4096 ∧ (m : Int) = max most 0) := by refine ⟨?_, ?_⟩ <;> omega
  obtain ⟨ls, hls⟩ : ∃ ls, spI q its = ls := ⟨_, rfl⟩
  have HLL : Hid (ls.length = n) := by show _ = _; rw [← hls, spI_len, HIL.out]
  have HSPS : Hid (∀ w', Below w.heap.size w w' → Calls Try.prog 8 #[q.v, .slice A n c] w' (fun e w2 => ∃ A' c', e = .returned (.slice A' n c') ∧ w2.ownsRow w'.heap.size 35 3 (.slice A' n c') n (flatS ls) ∧ Below w'.heap.size w' w2)) := by
    intro w' hb
    have := top_spots q A n c its w' ((HQ.out.below hb).more hb.size) (HI.out.on (Nat.le_refl _) hb) (by have := HN.out; omega)
    rw [hls] at this
    exact this
  clear hI hq hout hls hm han
  go_enter Try.func3, Try.ntmps3
  go_upto_region 6 with (first
    | (go_at_call 7; (with_reducible refine HBG.out.mono ?_); rintro e w1 ⟨rfl, hb⟩; have HB1 := Lib.hid hb; clear hb HBG)
    | (go_at_call 8; (with_reducible refine (HSPS.out w1 HB1.out).mono ?_); rintro e V1 ⟨A', c', rfl, hos, hb5⟩; have HOS := Lib.hid hos; have HV1 := Lib.hid (HB1.out.trans (hb5.mono HB1.out.size)); clear hos hb5))
  clear HSPS HB1
  have HSA0 : Hid (SpAt V1 V1.heap.size A' n ls ∧ (A' = none → n = 0 ∧ c' = 0)) := own_spAt HOS.out HLL.out
  have HAO : Hid (∀ b o, A' = some ⟨b, o, none⟩ → o = 0) := by
    intro b o e
    rcases HOS.out.2 with ⟨q1, _⟩ | ⟨g, cap, cur, q1, _⟩
    · injection q1 with q1; rw [q1] at e; cases e
    · injection q1 with q1
      rw [q1] at e
      injection e with e; injection e with _ e2 _
      exact e2.symm
  have hna := b_newE most V1
  rw [HMX.out] at hna
  have HN1 := Lib.hid hna
  clear hna
  go_upto_region 8 with (first
    | (go_at_call 9; (with_reducible refine HN1.out.mono ?_); rintro e u1 ⟨rfl, hw⟩; clear HN1; have HU1 := Lib.hid hw; have hna := b_newE most u1; rw [HMX.out] at hna; have HN2 := Lib.hid hna; clear hw hna)
    | (go_at_call 9; (with_reducible refine HN2.out.mono ?_); rintro e u2 ⟨rfl, hw⟩; clear HN2; have HU2 := Lib.hid hw; have hna := b_newE most u2; rw [HMX.out] at hna; have HN3 := Lib.hid hna; clear hw hna)
    | (go_at_call 9; (with_reducible refine HN3.out.mono ?_); rintro e u3 ⟨rfl, hw⟩; clear HN3; have HU3 := Lib.hid hw; have hna := b_newE most u3; rw [HMX.out] at hna; have HN4 := Lib.hid hna; clear hw hna)
    | (go_at_call 9; (with_reducible refine HN4.out.mono ?_); rintro e u4 ⟨rfl, hw⟩; clear HN4; have HU4 := Lib.hid hw; have HN5 := Lib.hid (q_newE u4); clear hw)
    | (go_at_call 10; (with_reducible refine HN5.out.mono ?_); rintro e u5 ⟨rfl, hw⟩; clear HN5; have HU5 := Lib.hid hw; clear hw))
  have B1 : Below V1.heap.size V1 u1 := by rw [← HU1.out]; exact bel_box _ _
  have B2 : Below u1.heap.size u1 u2 := by rw [← HU2.out]; exact bel_box _ _
  have B3 : Below u2.heap.size u2 u3 := by rw [← HU3.out]; exact bel_box _ _
  have B4 : Below u3.heap.size u3 u4 := by rw [← HU4.out]; exact bel_box _ _
  have B5 : Below u4.heap.size u4 u5 := by rw [← HU5.out]; exact bel_box _ _
  obtain ⟨h1, x1, x2, x3, x4, x5, X⟩ := best_new m V1 u1 HU1.out
  obtain ⟨h2, y1, y2, y3, y4, y5, Y⟩ := best_new m u1 u2 HU2.out
  obtain ⟨h3, z1, z2, z3, z4, z5, Z⟩ := best_new m u2 u3 HU3.out
  obtain ⟨h4, v1, v2, v3, v4, v5, V⟩ := best_new m u3 u4 HU4.out
  obtain ⟨h5, hq5, q4, Q⟩ := que_new u4 u5 HU5.out
  have ft : ∀ (h : HR) (b : Nat), h.hb = b → h.A = none → ∀ k, foot h k → b ≤ k := by
    intro h b e1 e2 k hk
    rcases hk with e | e
    · exact Nat.le_of_eq (e.trans e1).symm
    · rw [e2] at e; cases e
  obtain ⟨Bs, hBs⟩ : ∃ Bs : Nat → Prop, ∀ k, Bs k ↔ V1.heap.size ≤ k := ⟨_, fun _ => Iff.rfl⟩
  have HBs := Lib.hid hBs
  have s1 : HsAt u1 Bs ([] ++ [h1]) := (HsAt.nil_ V1 _).add B1 X (ft h1 _ x1 x4) (fun k h => (hBs k).2 h)
  have s2 : HsAt u2 Bs ([h1] ++ [h2]) := HsAt.add (hs := [h1]) s1 B2 Y (ft h2 _ y1 y4) (fun k h => (hBs k).2 (Nat.le_trans B1.size h))
  have s3 : HsAt u3 Bs ([h1, h2] ++ [h3]) := HsAt.add (hs := [h1, h2]) s2 B3 Z (ft h3 _ z1 z4) (fun k h => (hBs k).2 (Nat.le_trans B1.size (Nat.le_trans B2.size h)))
  have s4 : HsAt u4 Bs ([h1, h2, h3] ++ [h4]) := HsAt.add (hs := [h1, h2, h3]) s3 B4 V (ft h4 _ v1 v4) (fun k h => (hBs k).2 (Nat.le_trans B1.size (Nat.le_trans B2.size (Nat.le_trans B3.size h))))
  have s5 : HsAt u5 Bs ([h1, h2, h3, h4] ++ [h5]) := HsAt.add (hs := [h1, h2, h3, h4]) s4 B5 Q (ft h5 _ hq5.1 q4) (fun k h => (hBs k).2 (Nat.le_trans B1.size (Nat.le_trans B2.size (Nat.le_trans B3.size (Nat.le_trans B4.size h)))))
  have HB15 : Hid (Below V1.heap.size V1 u5) := B1.trans ((B2.trans ((B3.trans ((B4.trans (B5.mono B4.size)).mono B3.size)).mono B2.size)).mono B1.size)
  have HH0 : Hid (HsAt u5 Bs [h1, h2, h3, h4, h5]) := s5
  have HX1 : Hid (BstI m V1.heap.size (ls.take 0) h1) := ⟨x1, x2, x3, by rw [x5]; exact Hp.nil _, by rw [x5]; exact BI.start m⟩
  have HX2 : Hid (BstI m u1.heap.size (ls.take (min 0 a)) h2) := ⟨y1, y2, y3, by rw [y5]; exact Hp.nil _, by rw [y5, Nat.zero_min]; exact BI.start m⟩
  have HX3 : Hid (BstI m u2.heap.size ((ls.take 0).drop a) h3) := ⟨z1, z2, z3, by rw [z5]; exact Hp.nil _, by rw [z5, List.take_zero, List.drop_nil]; exact BI.start m⟩
  have HX4 : Hid (BstI m u3.heap.size [] h4) := ⟨v1, v2, v3, by rw [v5]; exact Hp.nil _, by rw [v5]; exact BI.start m⟩
  have HX5 : Hid (QueI u4.heap.size (ls.take 0) h5) := hq5
  obtain ⟨b2, hb2⟩ : ∃ b, u1.heap.size = b := ⟨_, rfl⟩
  obtain ⟨b3, hb3⟩ : ∃ b, u2.heap.size = b := ⟨_, rfl⟩
  obtain ⟨b4, hb4⟩ : ∃ b, u3.heap.size = b := ⟨_, rfl⟩
  obtain ⟨b5, hb5⟩ : ∃ b, u4.heap.size = b := ⟨_, rfl⟩
  rw [hb2] at HX2
  rw [hb3] at HX3
  rw [hb4] at HX4
  rw [hb5] at HX5
  (try rw [hb2])
  (try rw [hb3])
  (try rw [hb4])
  (try rw [hb5])
  clear x1 x2 x3 x4 x5 X y1 y2 y3 y4 y5 Y z1 z2 z3 z4 z5 Z v1 v2 v3 v4 v5 V hq5 q4 Q s1 s2 s3 s4 s5 B1 B2 B3 B4 B5 HU1 HU2 HU3 HU4 HU5 ft hBs hb2 hb3 hb4 hb5
  go_wp2_with fail
  go_loopw [73] (fun i wr => ∃ (t : Nat) (h1 h2 h3 h4 h5 : HR), t ≤ n ∧ i = .int .i64 (t : Nat) ∧ Hid (HsAt wr Bs [h1, h2, h3, h4, h5]) ∧ Hid (BstI m V1.heap.size (ls.take t) h1) ∧ Hid (BstI m b2 (ls.take (min t a)) h2) ∧ Hid (BstI m b3 ((ls.take t).drop a) h3) ∧ Hid (BstI m b4 [] h4) ∧ Hid (QueI b5 (ls.take t) h5) ∧ Hid (Below V1.heap.size V1 wr)) (fun i _ => n - (intOf i).toNat)
  case atStart => exact ⟨0, h1, h2, h3, h4, h5, Nat.zero_le _, rfl, HH0.out, HX1.out, HX2.out, HX3.out, HX4.out, HX5.out, HB15.out⟩
  case round =>
    clear HX1 HX2 HX3 HX4 HX5 HH0 HB15
    obtain ⟨t, h1, h2, h3, h4, h5, ht, rfl, HH, HX1, HX2, HX3, HX4, HX5, HB⟩ := hrel
    by_cases hlt : t < n
    · have hsl : SpAt wr V1.heap.size A' n ls := SpAt.below HSA0.out.1 HB.out
      obtain ⟨g, rfl⟩ : ∃ g, A' = some ⟨g, 0, none⟩ := by
        obtain ⟨b, o, _, e, _⟩ := Rs.at_ hsl hlt
        have := HAO.out b o e
        subst this
        exact ⟨b, e⟩
      have LX := SpAt.load hsl hlt
      have htl : t < ls.length := by rw [HLL.out]; exact hlt
      have HT0 : Hid (ls.take (t + 1) = ls.take t ++ [sg ls t]) := take_stepX (sg_at htl)
      have HT1 := Lib.hid (fun h : t < a => take_halves htl h)
      have HT2 := Lib.hid (fun h : a ≤ t => take_halves2 htl h)
      obtain ⟨x, hx0⟩ : ∃ x, sg ls t = x := ⟨_, rfl⟩
      rw [hx0] at LX HT0 HT1 HT2
      simp only [Nat.zero_add] at LX
      obtain ⟨W4, hW4⟩ : ∃ W4, (wr.alloc (.cells #[.int .u64 0, .int .u64 0, .int .i64 0] 35)).setCells wr.heap.size 0 (spC x).toList = W4 := ⟨_, rfl⟩
      have SI : (Instr.storeAt 35 (.pointer (some ⟨wr.heap.size, 0, none⟩)) (spV x)).run Try.prog _ = _ := spB_put wr x
      rw [hW4] at SI
      have hk4 : Blk W4 wr.heap.size 35 (spC x) := by rw [← hW4]; exact spB_blk wr x
      have hb4 : Below wr.heap.size wr W4 := by rw [← hW4]; exact put_bel _ _ _
      have HK4 := Lib.hid hk4
      have L1 : (Instr.loadAt 35 (.pointer (some ⟨wr.heap.size, 0, none⟩))).run Try.prog W4 = .ok (spV x) W4 := spB_load hk4
      have HH4 : Hid (HsAt W4 Bs [h1, h2, h3, h4, h5]) := HH.out.below hb4
      have HB4 : Hid (Below V1.heap.size V1 W4) := HB.out.trans (hb4.mono HB.out.size)
      have HNF : Hid (∀ (i : Nat) (h : HR), [h1, h2, h3, h4, h5][i]? = some h → ¬ foot h wr.heap.size) := fun i h hi q => Nat.lt_irrefl _ ((HH.out.at_ i h hi).foot_lt _ q)
      have hof := b_offerK m HM.out.1 (ls.take t) x W4 HH4.out (i := 0) rfl HX1.out (fun k hk => (HBs.out k).2 (Nat.le_trans HB4.out.size hk))
      rw [← HT0.out] at hof
      have HOF := Lib.hid hof
      have HLT := Lib.hid hlt
      clear hof hk4 hb4 hW4 hx0 hsl htl
      go_upto_region 14 with (first
        | refine wpList_loadE LX _ rfl rfl rfl ?_
        | refine wpList_storeE SI _ _ rfl rfl rfl rfl ?_
        | refine wpList_loadE L1 _ rfl rfl rfl ?_
        | (go_at_call 11; (with_reducible refine HOF.out.mono ?_); rintro e w5 ⟨r, h1', rfl, k1, k2, k3, k4⟩; have HH5 : Hid (HsAt w5 Bs [h1', h2, h3, h4, h5]) := k1; have HY1 := Lib.hid k2; have HT5 := Lib.hid k3; clear k1 k2 k3 k4))
      clear LX SI L1 HOF
      have HK5 : Hid (Blk w5 wr.heap.size 35 (spC x)) := HK4.out.tch HT5.out (HNF.out 0 h1 rfl)
      have HB5 : Hid (Below V1.heap.size V1 w5) := HB4.out.trans (HT5.out.below HB4.out.size (fun k hk => (HBs.out k).1 (HH4.out.bs 0 h1 rfl k hk)))
      have L2 : (Instr.loadAt 35 (.pointer (some ⟨wr.heap.size, 0, none⟩))).run Try.prog w5 = .ok (spV x) w5 := spB_load HK5.out
      have hpu := q_pushH (ls.take t) x w5 HH5.out (i := 4) rfl HX5.out (by rw [List.length_take, HLL.out]; have := HN.out; omega) (fun k hk => (HBs.out k).2 (Nat.le_trans HB5.out.size hk))
      rw [← HT0.out] at hpu
      have HPU := Lib.hid hpu
      clear hpu
      go_upto_region 15 with (first
        | refine wpList_loadE L2 _ rfl rfl rfl ?_
        | (go_at_call 12; (with_reducible refine HPU.out.mono ?_); rintro e w6 ⟨rfl, h5', k1, k2, k3⟩; have HH6 : Hid (HsAt w6 Bs [h1', h2, h3, h4, h5']) := k1; have HY5 := Lib.hid k2; have HT6 := Lib.hid k3; clear k1 k2 k3))
      clear L2 HPU
      have HK6 : Hid (Blk w6 wr.heap.size 35 (spC x)) := HK5.out.tch HT6.out (HNF.out 4 h5 rfl)
      have HB6 : Hid (Below V1.heap.size V1 w6) := HB5.out.trans (HT6.out.below HB5.out.size (fun k hk => (HBs.out k).1 (HH5.out.bs 4 h5 rfl k hk)))
      have L3 : (Instr.loadAt 35 (.pointer (some ⟨wr.heap.size, 0, none⟩))).run Try.prog w6 = .ok (spV x) w6 := spB_load HK6.out
      by_cases hta : t < a
      · have tla : decide (t < a) = true := decide_eq_true hta
        have hof := b_offerK m HM.out.1 (ls.take (min t a)) x w6 HH6.out (i := 1) rfl HX2.out (fun k hk => (HBs.out k).2 (Nat.le_trans HB6.out.size hk))
        rw [← (HT1.out hta).1] at hof
        have HX3' : Hid (BstI m b3 ((ls.take (t + 1)).drop a) h3) := by show BstI _ _ _ _; rw [(HT1.out hta).2]; exact HX3.out
        have HOF := Lib.hid hof
        clear hof hta
        go_wp2_with (first
          | refine wpList_loadE L3 _ rfl rfl rfl ?_
          | (go_at_call 11; (with_reducible refine HOF.out.mono ?_); rintro e w7 ⟨r, h2', rfl, k1, k2, k3, k4⟩; have HH7 : Hid (HsAt w7 Bs [h1', h2', h3, h4, h5']) := k1; have HY2 := Lib.hid k2; have HT7 := Lib.hid k3; clear k1 k2 k3 k4))
        have HB7 : Hid (Below V1.heap.size V1 w7) := HB6.out.trans (HT7.out.below HB6.out.size (fun k hk => (HBs.out k).1 (HH6.out.bs 1 h2 rfl k hk)))
        go_roundw
        case rel => exact ⟨t + 1, h1', h2', h3, h4, h5', HLT.out, by go_num, HH7.out, HY1.out, HY2.out, HX3'.out, HX4.out, HY5.out, HB7.out⟩
        case measure => have := HLT.out; simp [intOf]; omega
      · have tla : decide (t < a) = false := decide_eq_false hta
        have hof := b_offerK m HM.out.1 ((ls.take t).drop a) x w6 HH6.out (i := 2) rfl HX3.out (fun k hk => (HBs.out k).2 (Nat.le_trans HB6.out.size hk))
        rw [← (HT2.out (by omega)).2] at hof
        have HX2' : Hid (BstI m b2 (ls.take (min (t + 1) a)) h2) := by show BstI _ _ _ _; rw [(HT2.out (by omega)).1]; exact HX2.out
        have HOF := Lib.hid hof
        clear hof hta
        go_wp2_with (first
          | refine wpList_loadE L3 _ rfl rfl rfl ?_
          | (go_at_call 11; (with_reducible refine HOF.out.mono ?_); rintro e w7 ⟨r, h3', rfl, k1, k2, k3, k4⟩; have HH7 : Hid (HsAt w7 Bs [h1', h2, h3', h4, h5']) := k1; have HY3 := Lib.hid k2; have HT7 := Lib.hid k3; clear k1 k2 k3 k4))
        have HB7 : Hid (Below V1.heap.size V1 w7) := HB6.out.trans (HT7.out.below HB6.out.size (fun k hk => (HBs.out k).1 (HH6.out.bs 2 h3 rfl k hk)))
        go_roundw
        case rel => exact ⟨t + 1, h1', h2, h3', h4, h5', HLT.out, by go_num, HH7.out, HY1.out, HX2'.out, HY3.out, HX4.out, HY5.out, HB7.out⟩
        case measure => have := HLT.out; simp [intOf]; omega
    · obtain rfl : t = n := by omega
      clear hlt ht
      have hT : ls.take t = ls := List.take_of_length_le (by rw [HLL.out]; exact Nat.le_refl _)
      have hT2 : ls.take (min t a) = ls.take a := by rw [Nat.min_eq_right HN.out.2.1]
      rw [hT] at HX1 HX3 HX5
      rw [hT2] at HX2
      clear hT hT2
      obtain ⟨W0, rfl⟩ : ∃ W0, W0 = wr := ⟨_, rfl⟩
      obtain ⟨r2, hr2⟩ : ∃ r, h2.L.length = r := ⟨_, rfl⟩
      obtain ⟨r3, hr3⟩ : ∃ r, h3.L.length = r := ⟨_, rfl⟩
      have hl2 := b_listO h2 W0 (HH.out.at_ 1 h2 rfl) (by rw [HX2.out.2.2.2.2.len]; have := HM.out.1; omega)
      rw [HX2.out.1, hr2] at hl2
      have HL2 := Lib.hid hl2
      have hr2m : r2 ≤ 4096 := by rw [← hr2, HX2.out.2.2.2.2.len]; have := HM.out.1; omega
      have hr3m : r3 ≤ 4096 := by rw [← hr3, HX3.out.2.2.2.2.len]; have := HM.out.1; omega
      have HRM : Hid (r2 ≤ 4096 ∧ r3 ≤ 4096) := ⟨hr2m, hr3m⟩
      have HL3 : Hid (∀ w', Below W0.heap.size W0 w' → Calls Try.prog 13 #[.pointer (some ⟨b3, 0, none⟩)] w' (fun e w2 => ∃ A2 c2, e = .returned (.slice A2 r3 c2) ∧ w2.ownsRow w'.heap.size 35 3 (.slice A2 r3 c2) r3 (flatS (sortSp h3.L)) ∧ Below w'.heap.size w' w2)) := by
        intro w' hb
        have := b_listO h3 w' ((HH.out.below hb).at_ 2 h3 rfl) (by rw [hr3]; omega)
        rw [HX3.out.1, hr3] at this
        exact this
      obtain ⟨Ly, hLy⟩ : ∃ l, sortSp h3.L = l := ⟨_, rfl⟩
      obtain ⟨Lx, hLx⟩ : ∃ l, sortSp h2.L = l := ⟨_, rfl⟩
      have HLX : Hid (Lx.Perm h2.L) := by show List.Perm _ _; rw [← hLx]; exact sortSp_perm _
      have HLY : Hid (Ly.Perm h3.L) := by show List.Perm _ _; rw [← hLy]; exact sortSp_perm _
      rw [hLx] at HL2
      rw [hLy] at HL3
      have HXL : Hid (Lx.length = r2) := by show _ = _; rw [HLX.out.length_eq, hr2]
      have HYL : Hid (Ly.length = r3) := by show _ = _; rw [HLY.out.length_eq, hr3]
      clear hr2 hr3 hl2 hr2m hr3m hLx hLy
      go_wp2_with (first
        | (go_at_call 13; (with_reducible refine HL2.out.mono ?_); rintro e w5 ⟨A1, c1, rfl, ho, hb⟩; clear HL2; have HO5 := Lib.hid ho; have HB5 := Lib.hid hb; have HL3' := Lib.hid (HL3.out w5 hb); clear ho hb HL3)
        | (go_at_call 13; (with_reducible refine HL3'.out.mono ?_); rintro e w6 ⟨A2, c2, rfl, ho, hb⟩; clear HL3'; have HO6 := Lib.hid (own_keepS HO5.out hb); have HB6 := Lib.hid (HB5.out.trans (hb.mono HB5.out.size)); have HS6 := Lib.hid (own_spAt ho HYL.out); clear ho hb)
        | (at_builtin; refine wpList_appS rfl (.tmp 95) (.tmp 97) rfl w6 W0.heap.size _ r2 Lx rfl HO6.out A2 r3 c2 Ly _ rfl HS6.out.1 HS6.out.2 (by have := HRM.out; omega) (by have := HRM.out; omega) HB6.out.size ?_; intro A3 c3 W2 ho hb; have HO7 := Lib.hid ho; have HB7 := Lib.hid (HB6.out.trans hb); clear ho hb))
      have HR7 : Hid ((Lx ++ Ly).length = r2 + r3) := by show _ = _; rw [List.length_append, HXL.out, HYL.out]
      have HS7 := Lib.hid (own_spAt HO7.out HR7.out)
      have HH7 : Hid (HsAt W2 Bs [h1, h2, h3, h4, h5]) := HH.out.below HB7.out
      have HBW2 : Hid (Below V1.heap.size V1 W2) := HB.out.trans (HB7.out.mono HB.out.size)
      obtain ⟨r23, hr23⟩ : ∃ r, r2 + r3 = r := ⟨_, rfl⟩
      have HR23 : Hid (r23 ≤ 8192) := by have := HRM.out; show _ ≤ _; omega
      rw [hr23] at HR7 HS7
      have HAO7 : Hid (∀ b o, A3 = some ⟨b, o, none⟩ → o = 0 ∧ W0.heap.size ≤ b) := by
        intro b o e
        rcases HO7.out.2 with ⟨q1, _⟩ | ⟨g, cap, cur, q1, h1, _⟩
        · injection q1 with q1; rw [q1] at e; cases e
        · injection q1 with q1
          rw [q1] at e
          injection e with e; injection e with e1 e2 _
          subst e1
          exact ⟨e2.symm, h1⟩
      obtain ⟨LL, hLL⟩ : ∃ l, Lx ++ Ly = l := ⟨_, rfl⟩
      rw [hLL] at HR7 HS7
      have HLLE := Lib.hid hLL
      have e0 : ((r2 : Nat) : Int) + ((r3 : Nat) : Int) = ((r23 : Nat) : Int) := by omega
      (try simp only [e0])
      (try simp only [hr23])
      clear HO5 HO6 HO7 HS6 HB5 HB6 hLL
      obtain ⟨B2s, hB2⟩ : ∃ B2s : Nat → Prop, ∀ k, B2s k ↔ (foot h4 k ∨ W2.heap.size ≤ k) := ⟨_, fun _ => Iff.rfl⟩
      have HB2s := Lib.hid hB2
      have HB2V : Hid (∀ k, B2s k → V1.heap.size ≤ k) := by
        intro k hk
        rcases (hB2 k).1 hk with q | q
        · exact (HBs.out k).1 (HH.out.bs 3 h4 rfl k q)
        · exact Nat.le_trans HBW2.out.size q
      have HNB2 : Hid (∀ b o, A3 = some ⟨b, o, none⟩ → 0 < r23 → ¬ B2s b) := by
        intro b o e h0
        obtain ⟨b', o', _, e', hbl, _⟩ := Rs.at_ HS7.out.1 h0
        rw [e] at e'
        injection e' with e'; injection e' with e1 _ _
        subst e1
        rw [hB2]
        have h1 := (HAO7.out b o e).2
        rintro (q | q)
        · have := (HH.out.at_ 3 h4 rfl).foot_lt b q
          omega
        · omega
      have hX40 : BstI m b4 (LL.take 0) h4 := HX4.out
      have HX40 := Lib.hid hX40
      have hf40 : ∀ k, foot h4 k → B2s k := fun k hk => (hB2 k).2 (.inl hk)
      have HF40 := Lib.hid hf40
      clear hB2 hX40 hf40 HX4
      go_loopw [100] (fun i wr => ∃ (j : Nat) (h4 : HR), j ≤ r23 ∧ i = .int .i64 (j : Nat) ∧ Hid (HsAt wr Bs [h1, h2, h3, h4, h5]) ∧ Hid (BstI m b4 (LL.take j) h4) ∧ Hid (∀ k, foot h4 k → B2s k) ∧ Hid (Tch B2s W2 wr)) (fun i _ => r23 - (intOf i).toNat)
      case atStart => exact ⟨0, h4, Nat.zero_le _, rfl, HH7.out, HX40.out, HF40.out, Tch.refl _ _⟩
      case round =>
        clear HH7 HX40 HF40 HH HB
        obtain ⟨j, h4, hj, rfl, HH, HX4, HF4, HT⟩ := hrel
        by_cases hlt : j < r23
        · have hsl : SpAt wr W2.heap.size A3 r23 LL := Rs.tch HS7.out.1 HT.out (Nat.le_refl _) (fun b o e => HNB2.out b o e (by omega))
          obtain ⟨g, rfl⟩ : ∃ g, A3 = some ⟨g, 0, none⟩ := by
            obtain ⟨b, o, _, e, _⟩ := Rs.at_ hsl hlt
            have := (HAO7.out b o e).1
            subst this
            exact ⟨b, e⟩
          have LX := SpAt.load hsl hlt
          have HT0 : Hid (LL.take (j + 1) = LL.take j ++ [sg LL j]) := take_stepX (sg_at (by rw [HR7.out]; exact hlt))
          obtain ⟨x, hx0⟩ : ∃ x, sg LL j = x := ⟨_, rfl⟩
          rw [hx0] at LX HT0
          simp only [Nat.zero_add] at LX
          obtain ⟨W4, hW4⟩ : ∃ W4, (wr.alloc (.cells #[.int .u64 0, .int .u64 0, .int .i64 0] 35)).setCells wr.heap.size 0 (spC x).toList = W4 := ⟨_, rfl⟩
          have SI : (Instr.storeAt 35 (.pointer (some ⟨wr.heap.size, 0, none⟩)) (spV x)).run Try.prog _ = _ := spB_put wr x
          rw [hW4] at SI
          have hk4 : Blk W4 wr.heap.size 35 (spC x) := by rw [← hW4]; exact spB_blk wr x
          have hb4 : Below wr.heap.size wr W4 := by rw [← hW4]; exact put_bel _ _ _
          have L1 : (Instr.loadAt 35 (.pointer (some ⟨wr.heap.size, 0, none⟩))).run Try.prog W4 = .ok (spV x) W4 := spB_load hk4
          have HH4 : Hid (HsAt W4 Bs [h1, h2, h3, h4, h5]) := HH.out.below hb4
          have HT4 : Hid (Tch B2s W2 W4) := HT.out.trans (Tch.of_below (S := fun _ => False) hb4) (fun _ q => q.elim)
          have hof := b_offerK m HM.out.1 (LL.take j) x W4 HH4.out (i := 3) rfl HX4.out (fun k hk => (HBs.out k).2 (Nat.le_trans HBW2.out.size (Nat.le_trans HT4.out.size hk)))
          rw [← HT0.out] at hof
          have HOF := Lib.hid hof
          have HLT := Lib.hid hlt
          clear hof hk4 hb4 hW4 hx0 hsl
          have hr8 := HR23.out
          go_wp2_with (first
            | refine wpList_loadE LX _ rfl rfl rfl ?_
            | refine wpList_storeE SI _ _ rfl rfl rfl rfl ?_
            | refine wpList_loadE L1 _ rfl rfl rfl ?_
            | (go_at_call 11; (with_reducible refine HOF.out.mono ?_); rintro e w5 ⟨r, h4', rfl, k1, k2, k3, k4⟩; have HH5 : Hid (HsAt w5 Bs [h1, h2, h3, h4', h5]) := k1; have HY4 := Lib.hid k2; have HT5 : Hid (Tch B2s W2 w5) := HT4.out.trans k3 (fun k q => .inl (HF4.out k q)); have HF5 : Hid (∀ k, foot h4' k → B2s k) := (fun k hk => by rcases k4 k hk with q | q; exact HF4.out k q; exact (HB2s.out k).2 (.inr (Nat.le_trans HT4.out.size q))); clear k1 k2 k3 k4))
          go_roundw
          case rel => exact ⟨j + 1, h4', HLT.out, by go_num, HH5.out, HY4.out, HF5.out, HT5.out⟩
          case measure => have := HLT.out; simp [intOf]; omega
        · obtain rfl : j = r23 := by omega
          clear hlt hj
          have hx4 := HX4.out
          rw [List.take_of_length_le (by rw [HR7.out]; exact Nat.le_refl _), ← HLLE.out] at hx4
          have hbi := BI.both HX2.out.2.2.2.2 HX3.out.2.2.2.2 HLX.out HLY.out hx4.2.2.2.2
          rw [List.take_append_drop] at hbi
          have HY4 : Hid (BstI m b4 ls h4) := ⟨hx4.1, hx4.2.1, hx4.2.2.1, hx4.2.2.2.1, hbi⟩
          have HB : Hid (Below V1.heap.size V1 wr) := HBW2.out.trans (HT.out.below HBW2.out.size HB2V.out)
          obtain ⟨W3, rfl⟩ : ∃ W3, W3 = wr := ⟨_, rfl⟩
          obtain ⟨rr, hrr⟩ : ∃ rr : Nat, min (max most 0) (t : Int) = (rr : Int) := ⟨(min (max most 0) (t : Int)).toNat, by omega⟩
          have hrt : rr ≤ t ∧ rr = min m t := by have := HM.out.2; omega
          have HRR := Lib.hid hrt
          have HV3 : Hid (V1.heap.size ≤ W3.heap.size) := HB.out.size
          have hrt1 := hrt.1
          obtain ⟨Bs3, hB3⟩ : ∃ Bs3 : Nat → Prop, ∀ k, Bs3 k ↔ (V1.heap.size ≤ k ∧ k < W3.heap.size) := ⟨_, fun _ => Iff.rfl⟩
          have HB3s := Lib.hid hB3
          have HH3 : Hid (HsAt W3 Bs3 [h1, h2, h3, h4, h5]) := HH.out.more (fun k hk hB => (hB3 k).2 ⟨(HBs.out k).1 hB, hk⟩)
          have HQ5 : Hid (QueI b5 h5.L h5) := ⟨HX5.out.1, HX5.out.2.1, HX5.out.2.2.1, .refl _⟩
          have HQI : Hid (QI ls [] h5.L) := QI.start HX5.out.2.2.2
          have HQL : Hid (([] : List Sp).length = 0 ∧ h5.L.length + 0 = t) := ⟨rfl, by rw [HX5.out.2.2.2.length_eq]; exact HLL.out⟩
          clear hx4 hbi hrt hB3 HT HF4 HX4 HH HX2 HX3 HX5 HLX HLY HXL HYL HB2s HB2V HNB2 HS7 HAO7 HLLE HR7 HR23 HBW2 HRM
          go_wp2_with fail
          go_loopw [113, 19] (fun i v wr => ∃ (j : Nat) (A7 : Option Addr) (c7 : Nat) (told : List Sp) (h5 : HR), j ≤ rr ∧ i = .int .i64 (j : Nat) ∧ v = .slice A7 j c7 ∧ Hid (HsAt wr Bs3 [h1, h2, h3, h4, h5]) ∧ Hid (QueI b5 h5.L h5) ∧ Hid (QI ls told h5.L) ∧ Hid (told.length = j ∧ h5.L.length + j = t) ∧ Hid (wr.ownsRow W3.heap.size 35 3 (.slice A7 j c7) j (flatS told)) ∧ Hid (Below V1.heap.size V1 wr) ∧ Hid (W3.heap.size ≤ wr.heap.size)) (fun i _ _ => rr - (intOf i).toNat)
          case atStart => exact ⟨0, none, 0, [], h5, Nat.zero_le _, rfl, rfl, HH3.out, HQ5.out, HQI.out, HQL.out, World.ownsRow_nil _ _ _ _, HB.out, Nat.le_refl _⟩
          case round =>
            clear HH3 HQ5 HQI HQL HB
            obtain ⟨j, A7, c7, told, h5, hj, rfl, rfl, HH, HQ5, HQI, HQL, HO, HB, HSZ⟩ := hrel
            by_cases hlt : j < rr
            · have hl5 : 0 < h5.L.length := by have h1 := HQL.out.2; omega
              have HPO := Lib.hid (q_popH wr HH.out (i := 4) rfl HQ5.out HQI.out (by have h1 := HQL.out.2; omega) hl5)
              have HLT := Lib.hid hlt
              clear hl5
              go_upto_region 28 with (first
                | (go_at_call 14; (with_reducible refine HPO.out.mono ?_); rintro e w5 ⟨x, h5', rfl, k1, k2, k3, k4, k5⟩; have HH5 : Hid (HsAt w5 Bs3 [h1, h2, h3, h4, h5']) := k1; have HQ6 := Lib.hid k2; have HQI6 := Lib.hid k3; have HQL6 := Lib.hid k4; have HT5 := Lib.hid k5; obtain ⟨W6, hW6⟩ : ∃ W6, (w5.alloc (.cells #[.int .u64 0, .int .u64 0, .int .i64 0] 35)).setCells w5.heap.size 0 (spC x).toList = W6 := ⟨_, rfl⟩; have SI : (Instr.storeAt 35 (.pointer (some ⟨w5.heap.size, 0, none⟩)) (spV x)).run Try.prog _ = _ := spB_put w5 x; rw [hW6] at SI; have HK6 : Hid (Blk W6 w5.heap.size 35 (spC x)) := (by show Blk _ _ _ _; rw [← hW6]; exact spB_blk w5 x); have HB6 : Hid (Below w5.heap.size w5 W6) := (by show Below _ _ _; rw [← hW6]; exact put_bel _ _ _); clear hW6 k1 k2 k3 k4 k5 HPO)
                | refine wpList_storeE SI _ _ rfl rfl rfl rfl ?_)
              clear SI
              have HO5 : Hid (w5.ownsRow W3.heap.size 35 3 (.slice A7 j c7) j (flatS told)) := ownsRow_tch HO.out HT5.out (fun k q1 q2 => by
                have h1 := (HO.out.lt k q1).1
                have h2 := ((HB3s.out k).1 (HH.out.bs 4 h5 rfl k q2)).2
                omega)
              have HO6 := Lib.hid (own_keepS HO5.out HB6.out)
              have HB5 : Hid (Below V1.heap.size V1 w5) := HB.out.trans (HT5.out.below HB.out.size (fun k hk => ((HB3s.out k).1 (HH.out.bs 4 h5 rfl k hk)).1))
              have HBW6 : Hid (Below V1.heap.size V1 W6) := HB5.out.trans (HB6.out.mono HB5.out.size)
              have HSZ6 : Hid (W3.heap.size ≤ W6.heap.size) := Nat.le_trans HSZ.out (Nat.le_trans HT5.out.size HB6.out.size)
              have L1 := spB_load HK6.out
              unfold spC at L1
              have hr9 : rr ≤ 60 := by have := HN.out; omega
              go_wp2_with (first
                | refine wpList_loadE L1 _ rfl rfl rfl ?_
                | (at_builtin; refine wpList_push1 rfl (.tmp 122) (.tmp 124) 25 35 3 24 _ rfl Try.underlying25 info_spotK rfl (by decide) W6 W3.heap.size _ j _ (spC x) rfl HO6.out rfl rfl (fun u hu => by rcases (by simpa [spC] using hu : u = _ ∨ u = _ ∨ u = _) with rfl | rfl | rfl <;> rfl) (by omega) (by decide) HSZ6.out ?_; intro g2 c4 W7 ho hgr hb hat; replace ho := Lib.hid ho; replace hgr := Lib.hid hgr; replace hb := Lib.hid hb; clear hat))
              go_roundw
              case rel =>
                refine ⟨j + 1, some ⟨g2, 0, none⟩, c4, told ++ [x], h5', HLT.out, by go_num, rfl, ?_, HQ6.out, HQI6.out, ?_, ?_, ?_, Nat.le_trans HSZ6.out hgr.out.size⟩
                · exact (HH5.out.below HB6.out).keep (grownBy_tch hgr.out) (fun k q1 q2 => by
                    have h1 := (HO6.out.lt k q2.symm).1
                    have h2 := ((HB3s.out k).1 q1).2
                    omega)
                · refine ⟨by rw [List.length_append, HQL.out.1]; rfl, ?_⟩
                  have h1 := HQL.out.2
                  have h2 := HQL6.out
                  omega
                · show World.ownsRow _ _ _ _ _ _ _
                  rw [flatS_appC]
                  simpa [flatS, spL, spC] using ho.out
                · exact HBW6.out.trans (hb.out.mono HV3.out)
              case measure => have := HLT.out; simp [intOf]; omega
            · obtain rfl : j = rr := by omega
              clear hlt hj
              obtain ⟨Lr, hLr⟩ : ∃ Lr, (sortSp ls).take m = Lr := ⟨_, rfl⟩
              have hsl : (sortSp ls).length = t := by rw [sortSp_len, HLL.out]
              have hjm : (sortSp ls).take j = Lr := by rw [← hLr, ← take_min_len m, hsl, ← HRR.out.2]
              have HLR : Hid (Lr.length = j) := by show _ = _; rw [← hjm, List.length_take, hsl]; have := HRR.out.1; omega
              have htold : told = Lr := by have := HQI.out.sort; rw [HQL.out.1, hjm] at this; exact this
              subst htold
              have HST := Lib.hid (own_spAt HO.out HLR.out)
              have HR1 : Hid (j ≤ 1048576 ∧ t ≤ 1048576) := by have h1 := HN.out; have h2 := HRR.out; show _ ∧ _; omega
              have HLX : Hid (∀ w', HsAt w' Bs3 [h1, h2, h3, h4, h5] → Calls Try.prog 13 #[.pointer (some ⟨V1.heap.size, 0, none⟩)] w' (RetO told w')) := by
                intro w' h
                have := b_listH m HM.out.1 w' h (i := 0) rfl HX1.out
                rw [hLr] at this
                exact this
              have HLY : Hid (∀ w', HsAt w' Bs3 [h1, h2, h3, h4, h5] → Calls Try.prog 13 #[.pointer (some ⟨b4, 0, none⟩)] w' (RetO told w')) := by
                intro w' h
                have := b_listH m HM.out.1 w' h (i := 3) rfl HY4.out
                rw [hLr] at this
                exact this
              have HLE : Hid (∀ w', Below V1.heap.size V1 w' → Calls Try.prog 16 #[.slice A' t c', .int .i64 most] w' (fun e w2 => ∃ A2 n2 c2, e = .returned (.slice A2 n2 c2) ∧ SpAt w2 w2.heap.size A2 n2 told ∧ Below w'.heap.size w' w2)) := by
                intro w' hb
                have := rank_least A' t c' ls most w' (SpAt.more (SpAt.below HSA0.out.1 hb) hb.size) HSA0.out.2 (by have := HN.out; omega)
                rw [show (min (max most 0) (ls.length : Int)).toNat = j by rw [HLL.out]; have h1 := HM.out.2; have h2 := HRR.out; omega, hjm] at this
                exact this
              have HL1 := Lib.hid (HLX.out wr HH.out)
              clear hLr hsl hjm hrr hrt1
              go_wp2_with (first
                | (go_at_call 13; (with_reducible refine HL1.out.mono ?_); rintro e w5 ⟨A1, n1, c1, rfl, hs, _, _, _, hb⟩; clear HL1; obtain rfl : j = n1 := (by rw [← HLR.out]; exact hs.len); have HS5 := Lib.hid hs; have HB5 := Lib.hid hb; have HH5 := Lib.hid (HH.out.below hb); have HL2 := Lib.hid (HLY.out w5 HH5.out); clear hs hb)
                | (go_at_call 13; (with_reducible refine HL2.out.mono ?_); rintro e w6 ⟨A2, n2, c2, rfl, hs, _, _, _, hb⟩; clear HL2; obtain rfl : j = n2 := (by rw [← HLR.out]; exact hs.len); have HB6 := Lib.hid (HB5.out.trans (hb.mono HB5.out.size)); have HH6 := Lib.hid (HH5.out.below hb); have HAL1 := Lib.hid (top_alike A1 A2 j c1 c2 told w6 (SpAt.more (SpAt.below HS5.out hb) hb.size) hs HR1.out.1); clear hs hb)
                | (go_at_call 15; (with_reducible refine HAL1.out.mono ?_); rintro e w7 ⟨rfl, hb⟩; clear HAL1; have HB7 := Lib.hid (HB6.out.trans (hb.mono HB6.out.size)); have HL3 := Lib.hid (HLX.out w7 (HH6.out.below hb)); clear hb)
                | (go_at_call 13; (with_reducible refine HL3.out.mono ?_); rintro e w8 ⟨A3, n3, c3, rfl, hs, _, _, _, hb⟩; clear HL3; obtain rfl : j = n3 := (by rw [← HLR.out]; exact hs.len); have HB8 := Lib.hid (HB7.out.trans (hb.mono HB7.out.size)); have HAL2 := Lib.hid (top_alike A3 A7 j c3 c7 told w8 hs (SpAt.more (SpAt.below HST.out.1 HB8.out) HB8.out.size) HR1.out.1); clear hs hb)
                | (go_at_call 15; (with_reducible refine HAL2.out.mono ?_); rintro e w9 ⟨rfl, hb⟩; clear HAL2; have HB9 := Lib.hid (HB8.out.trans (hb.mono HB8.out.size)); have HLS := Lib.hid (HLE.out w9 (HB.out.trans (HB9.out.mono HB.out.size))); clear hb)
                | (go_at_call 16; (with_reducible refine HLS.out.mono ?_); rintro e wa ⟨A4, n4, c4, rfl, hs, hb⟩; clear HLS; obtain rfl : j = n4 := (by rw [← HLR.out]; exact hs.len); have HBa := Lib.hid (HB9.out.trans (hb.mono HB9.out.size)); have HAL3 := Lib.hid (top_alike A7 A4 j c7 c4 told wa (SpAt.more (SpAt.below HST.out.1 HBa.out) HBa.out.size) hs HR1.out.1); clear hs hb)
                | (go_at_call 15; (with_reducible refine HAL3.out.mono ?_); rintro e wb ⟨rfl, hb⟩; clear HAL3; have HBb := Lib.hid (HBa.out.trans (hb.mono HBa.out.size)); clear hb))
              go_ret
              exact ⟨rfl, HV1.out.trans (Below.mono (HB.out.trans (HBb.out.mono HB.out.size)) HV1.out.size)⟩
end Go.Proofs.Ytpcbfoddlpgdjaa
