/- The best are the same ones, whatever the order: the walk of TopTurned. -/
import Derived.Test.YtpcbfoddlpgdjaaHpT
namespace Go.Proofs.Ytpcbfoddlpgdjaa
open Go.RowKit
theorem item_put (W : World) (d : ItX) : (Instr.storeAt 45 (.pointer (some ⟨W.heap.size, 0, none⟩)) (.agg d.cells)).run Try.prog (W.alloc (.cells #[.int .u64 0, .slice none 0 0, .int .u64 0] 45)) = .ok () ((W.alloc (.cells itx0 45)).setCells W.heap.size 0 d.cells.toList) := itx_put W d
set_option maxRecDepth 100000 in
set_option maxHeartbeats 16000000 in
theorem turned (q : IS) (A : Option Addr) (n c : Nat) (its : List ItX) (seed most : Int) (w : World) (hq : q.Vec w w.heap.size) (hI : Its w w.heap.size A n its) (hc : n ≤ c) :
    Calls Try.prog 4 #[q.v, .slice A n c, .int .u64 seed, .int .i64 most] w fun e w' => e = .returned (.bool true) ∧ Below w.heap.size w w' := by
  have HBG := Lib.hid (begins4 w)
  by_cases h60 : 60 < n
  · have t60 : decide ((n : Int) > 60) = true := decide_eq_true (by omega)
    clear hI hq h60
    go_enter Try.func4, Try.ntmps4
    go_wp2_with (go_at_call 7; (with_reducible refine HBG.out.mono ?_); rintro e w1 ⟨rfl, hb⟩; have HB1 := Lib.hid hb; clear hb)
    go_ret
    exact ⟨rfl, HB1.out⟩
  have t60 : decide ((n : Int) > 60) = false := decide_eq_false (by omega)
  have hn : n ≤ 60 := by omega
  have HI := Lib.hid hI
  have HQ := Lib.hid hq
  have HN := Lib.hid hn
  have HC := Lib.hid hc
  have HIL := Lib.hid hI.len
  clear hI hq h60 hc
  go_enter Try.func4, Try.ntmps4
  go_wp2_with (go_at_call 7; (with_reducible refine HBG.out.mono ?_); rintro e w1 ⟨rfl, hb⟩; have HB1 := Lib.hid hb; clear hb)
  go_loopw [26] (fun i wr => ∃ k : Nat, k ≤ n ∧ i = .int .i64 (k : Nat) ∧ Hid (Below w.heap.size w wr)) (fun i _ => n - (intOf i).toNat)
  case atStart => exact ⟨0, Nat.zero_le _, rfl, HB1.out⟩
  case round =>
    obtain ⟨k, hk, rfl, HB⟩ := hrel
    clear HB1 HBG
    by_cases hlt : k < n
    · obtain ⟨W0, rfl⟩ : ∃ W0, W0 = wr := ⟨_, rfl⟩
      obtain ⟨b, o, d, rfl, hbl, hd, hv, hr⟩ := (HI.out.below HB.out).at_ hlt
      have LI := itx_load hr
      obtain ⟨xb, hxb⟩ : ∃ xb, W0.heap.size = xb := ⟨_, rfl⟩
      obtain ⟨W4, hW4⟩ : ∃ W4, (W0.alloc (.cells itx0 45)).setCells W0.heap.size 0 d.cells.toList = W4 := ⟨_, rfl⟩
      have SI := item_put W0 d
      have bx := itx_blk W0 d
      have b4 := put_bel W0 (.cells itx0 45) d.cells.toList
      rw [hW4] at SI bx b4
      rw [hxb] at SI bx
      have HX4 := Lib.hid bx
      have HB4 : Hid (Below w.heap.size w W4) := HB.out.trans (b4.mono HB.out.size)
      have t1 : ((k : Nat) : Int) ≤ ((c : Nat) : Int) := by have := HC.out; omega
      have t2 : k ≤ c := by have := HC.out; omega
      have HLT := Lib.hid hlt
      clear hd hv hr bx b4 hW4 hbl
      go_wp2_with (first | refine wpList_loadE LI _ rfl rfl rfl ?_ | refine wpList_storeE SI _ _ rfl rfl rfl rfl ?_)
      clear LI SI hxb
      go_loopw [35] (fun i wr => ∃ j : Nat, j ≤ k ∧ i = .int .i64 (j : Nat) ∧ Hid (Below W4.heap.size W4 wr)) (fun i _ => k - (intOf i).toNat)
      case atStart => exact ⟨0, Nat.zero_le _, rfl, Below.refl _ _⟩
      case round =>
        obtain ⟨j, hj, rfl, HB5⟩ := hrel
        by_cases hlj : j < k
        · obtain ⟨b', o', e, eA, hbl, he, hv, hr⟩ := (HI.out.below (HB4.out.trans (HB5.out.mono HB4.out.size))).at_ (show j < n by omega)
          injection eA with eA; injection eA with eA1 eA2 _
          subst eA1 eA2
          have LI := itx_load hr
          obtain ⟨yb, hyb⟩ : ∃ yb, wr.heap.size = yb := ⟨_, rfl⟩
          obtain ⟨W6, hW6⟩ : ∃ W6, (wr.alloc (.cells itx0 45)).setCells wr.heap.size 0 e.cells.toList = W6 := ⟨_, rfl⟩
          have SI := item_put wr e
          have bx := itx_blk wr e
          have b6 := put_bel wr (.cells itx0 45) e.cells.toList
          rw [hW6] at SI bx b6
          rw [hyb] at SI bx
          have HB6 : Hid (Below W4.heap.size W4 W6) := HB5.out.trans (b6.mono HB5.out.size)
          have c1 : W6.cell? ⟨xb, 0, none⟩ = some (.int .u64 d.id) := (HX4.out.below HB6.out HX4.out.lt).cell 0
          have c2 : W6.cell? ⟨yb, 0, none⟩ = some (.int .u64 e.id) := bx.cell 0
          clear he hv hr bx b6 hW6 hbl
          by_cases hid : d.id = e.id
          · have tq : decide (d.id = e.id) = true := decide_eq_true hid
            have tq2 : (d.id == e.id) = true := by simpa using hid
            clear hid
            go_wp2_with (first | refine wpList_loadE LI _ rfl rfl rfl ?_ | refine wpList_storeE SI _ _ rfl rfl rfl rfl ?_)
            go_ret
            exact ⟨rfl, HB4.out.trans (HB6.out.mono HB4.out.size)⟩
          · have tq : decide (d.id = e.id) = false := decide_eq_false hid
            have tq2 : (d.id == e.id) = false := by simpa using hid
            clear hid
            go_wp2_with (first | refine wpList_loadE LI _ rfl rfl rfl ?_ | refine wpList_storeE SI _ _ rfl rfl rfl rfl ?_)
            go_roundw
            case rel => exact ⟨j + 1, by omega, by go_num, HB6.out⟩
            case measure => simp [intOf]; omega
        · obtain rfl : j = k := by omega
          clear hlj hj
          go_wp2_with fail
          go_roundw
          case rel => exact ⟨j + 1, HLT.out, by go_num, HB4.out.trans (HB5.out.mono HB4.out.size)⟩
          case measure => have := HLT.out; simp [intOf]; omega
    · obtain rfl : k = n := by omega
      clear hlt hk
      have HPL : Hid (permLen (k : Int) = k) := by show _ = _; unfold permLen; have := HN.out; omega
      obtain ⟨m, hm⟩ : ∃ m : Nat, min (max most 0) 4096 = (m : Int) := ⟨(min (max most 0) 4096).toNat, by omega⟩
      have hm4 : m ≤ 4096 := by omega
      have hmm : ((min m k : Nat) : Int) = min (max most 0) (k : Int) := by have := HN.out; omega
      have HM := Lib.hid hm4
      have HMX := Lib.hid hm
      have HMM := Lib.hid hmm
      obtain ⟨W0, rfl⟩ : ∃ W0, W0 = wr := ⟨_, rfl⟩
      have HNA := b_newE most W0
      rw [hm] at HNA
      replace HNA := Lib.hid HNA
      obtain ⟨ord, hord⟩ : ∃ ord, permI seed k = ord := ⟨_, rfl⟩
      have HOL : Hid (ord.length = k) := by show _ = _; rw [← hord, len_perm]
      have HOK : Hid (PermOK k ord) := by show PermOK _ _; rw [← hord]; exact permOK_perm _ _
      obtain ⟨ls, hls⟩ : ∃ ls, spI q its = ls := ⟨_, rfl⟩
      have HLL : Hid (ls.length = k) := by show _ = _; rw [← hls, spI_len, HIL.out]
      have HTP : Hid ((ord.map fun z => sg ls z.toNat).Perm ls) := by
        show List.Perm _ _
        have := turned_perm seed ls
        rw [HLL.out, hord] at this
        exact this
      have HPM : Hid (∀ w', Calls Try.prog 17 #[.int .u64 seed, .int .i64 ((k : Nat) : Int)] w' (fun e w2 => ∃ oc, e = .returned (.slice (some ⟨w'.heap.size, 0, none⟩) k oc) ∧ Rd w2 w2.heap.size (some ⟨w'.heap.size, 0, none⟩) k (ord.map (.int .i64)) ∧ Below w'.heap.size w' w2)) := by
        intro w'
        have := rng_permA seed ((k : Nat) : Int) w'
        rw [HPL.out, hord] at this
        unfold RetPm at this
        rw [HOL.out] at this
        exact this.mono fun _ _ ⟨⟨oc, h1, _, h3⟩, h4⟩ => ⟨oc, h1, h3, h4⟩
      have HSPS : Hid (∀ w', Below w.heap.size w w' → Calls Try.prog 8 #[q.v, .slice A k c] w' (fun e w2 => ∃ A' c', e = .returned (.slice A' k c') ∧ w2.ownsRow w'.heap.size 35 3 (.slice A' k c') k (flatS ls) ∧ Below w'.heap.size w' w2)) := by
        intro w' hb
        have := top_spots q A k c its w' ((HQ.out.below hb).more hb.size) (HI.out.on (Nat.le_refl _) hb) (by have := HN.out; omega)
        rw [hls] at this
        exact this
      clear hls hord hm hm4 hmm
      go_upto_region 16 with (first
        | (go_at_call 9; (with_reducible refine HNA.out.mono ?_); rintro e w2 ⟨rfl, hw2⟩; clear HNA; have HW2 := Lib.hid hw2; have HNB := b_newE most w2; rw [HMX.out] at HNB; replace HNB := Lib.hid HNB; clear hw2)
        | (go_at_call 9; (with_reducible refine HNB.out.mono ?_); rintro e w3 ⟨rfl, hw3⟩; clear HNB; have HW3 := Lib.hid hw3; clear hw3))
      go_upto_region 17 with (go_at_call 17; (with_reducible refine (HPM.out w3).mono ?_); rintro e w4 ⟨oc, rfl, hor, hb4⟩; have HOR := Lib.hid hor; have HB34 := Lib.hid hb4; clear hor hb4)
      have HB2 : Hid (Below W0.heap.size W0 w2) := by show Below _ _ _; rw [← HW2.out]; exact bel_box _ _
      have HB3 : Hid (Below w2.heap.size w2 w3) := by show Below _ _ _; rw [← HW3.out]; exact bel_box _ _
      have HS2 : Hid (w2.heap.size = W0.heap.size + 1 ∧ w3.heap.size = w2.heap.size + 1) := by
        refine ⟨?_, ?_⟩
        · rw [← HW2.out]; simp only [World.alloc, Array.size_push]
        · rw [← HW3.out]; simp only [World.alloc, Array.size_push]
      have HBW4 : Hid (Below w.heap.size w w4) := HB.out.trans (Below.mono (HB2.out.trans ((HB3.out.trans (HB34.out.mono HB3.out.size)).mono HB2.out.size)) HB.out.size)
      have HSP := Lib.hid (HSPS.out w4 HBW4.out)
      clear HPM HSPS
      go_wp2_with (go_at_call 8; (with_reducible refine HSP.out.mono ?_); rintro e V1 ⟨A', c', rfl, hos, hb5⟩; have HOS := Lib.hid hos; have HB45 := Lib.hid hb5; clear hos hb5)
      clear HSP
      obtain ⟨hx, x1, x2, x3, x4, x5, X⟩ := best_new m W0 w2 HW2.out
      obtain ⟨hy, y1, y2, y3, y4, y5, Y⟩ := best_new m w2 w3 HW3.out
      obtain ⟨Bs, hBs⟩ : ∃ Bs : Nat → Prop, ∀ k, Bs k ↔ (k = W0.heap.size ∨ k = w2.heap.size ∨ V1.heap.size ≤ k) := ⟨_, fun _ => Iff.rfl⟩
      have HBs := Lib.hid hBs
      have HBS : Hid (HsAt V1 Bs [hx, hy]) := by
        have fx : ∀ k, foot hx k → k = W0.heap.size := fun k hk => by
          rcases hk with e | e
          · exact e.trans x1
          · rw [x4] at e; cases e
        have fy : ∀ k, foot hy k → k = w2.heap.size := fun k hk => by
          rcases hk with e | e
          · exact e.trans y1
          · rw [y4] at e; cases e
        have h2 : HsAt w2 (fun k => W0.heap.size ≤ k) ([] ++ [hx]) := (HsAt.nil_ W0 _).add HB2.out X (fun k hk => Nat.le_of_eq (fx k hk).symm) (fun k h => h)
        have h3 : HsAt w3 (fun k => W0.heap.size ≤ k) ([hx] ++ [hy]) := HsAt.add (hs := [hx]) h2 HB3.out Y (fun k hk => Nat.le_of_eq (fy k hk).symm) (fun k h => Nat.le_trans HB2.out.size h)
        have h5 : HsAt V1 (fun k => W0.heap.size ≤ k) [hx, hy] := HsAt.below (hs := [hx, hy]) h3 (HB34.out.trans (HB45.out.mono HB34.out.size))
        refine ⟨h5.at_, h5.sep, fun i h hi k hk => ?_⟩
        rcases i with _ | _ | i
        · injection hi with hi; subst hi; exact (hBs k).2 (.inl (fx k hk))
        · injection hi with hi; subst hi; exact (hBs k).2 (.inr (.inl (fy k hk)))
        · cases hi
      have HXI : Hid (BstI m W0.heap.size (ls.take 0) hx) := ⟨x1, x2, x3, by rw [x5]; exact Hp.nil _, by rw [x5]; exact BI.start m⟩
      have HYI : Hid (BstI m w2.heap.size ((ord.take 0).map fun z => sg ls z.toNat) hy) := ⟨y1, y2, y3, by rw [y5]; exact Hp.nil _, by rw [y5]; exact BI.start m⟩
      have HSA : Hid (SpAt V1 V1.heap.size A' k ls) := (own_spAt HOS.out HLL.out).1
      have HNS : Hid (∀ b o, A' = some ⟨b, o, none⟩ → o = 0 ∧ ¬ Bs b) := by
        intro b o e
        rcases HOS.out.2 with ⟨q1, _⟩ | ⟨g, cap, cur, q1, h1, h2, _⟩
        · injection q1 with q1; rw [q1] at e; cases e
        · injection q1 with q1
          rw [q1] at e
          injection e with e; injection e with e1 e2 _
          subst e1
          have h3 : Blk V1 g 35 cur := h2
          have h4 := h3.lt
          have h5 := HS2.out
          have h6 := HB34.out.size
          refine ⟨e2.symm, ?_⟩
          rw [hBs]
          omega
      have HRA : Hid (Rd V1 w4.heap.size (some ⟨w3.heap.size, 0, none⟩) k (ord.map (.int .i64))) := Rd.below HOR.out HB45.out
      have HNO : Hid (0 < k → ¬ Bs w3.heap.size) := by
        intro h0
        have h1 := HS2.out
        have h3 := HB45.out.size
        have h4 : w3.heap.size < w4.heap.size := by
          obtain ⟨b, o, u, e, hb, _⟩ := HOR.out.at_ h0
          injection e with e; injection e with e _ _
          rw [e]; exact hb
        rw [hBs]
        omega
      have HBV : Hid (∀ k, V1.heap.size ≤ k → Bs k) := fun k hk => (hBs k).2 (.inr (.inr hk))
      have HBW5 : Hid (Below w.heap.size w V1) := HBW4.out.trans (HB45.out.mono HBW4.out.size)
      have HBW : Hid (∀ k, Bs k → w.heap.size ≤ k) := by
        intro k hk
        have h1 := HB.out.size
        have h2 := HS2.out
        have h3 := HBW5.out.size
        rcases (hBs k).1 hk with e | e | e <;> omega
      clear x1 x2 x3 x4 x5 X y1 y2 y3 y4 y5 Y hBs HW2 HW3
      go_loopw [72] (fun i wr => ∃ (t : Nat) (hx hy : HR), t ≤ k ∧ i = .int .i64 (t : Nat) ∧ Hid (HsAt wr Bs [hx, hy]) ∧ Hid (BstI m W0.heap.size (ls.take t) hx) ∧ Hid (BstI m w2.heap.size ((ord.take t).map fun z => sg ls z.toNat) hy) ∧ Hid (Tch Bs V1 wr)) (fun i _ => k - (intOf i).toNat)
      case atStart => exact ⟨0, hx, hy, Nat.zero_le _, rfl, HBS.out, HXI.out, HYI.out, Tch.refl _ _⟩
      case round =>
        clear HBS HXI HYI
        obtain ⟨t, hx, hy, ht, rfl, HH, HX, HY, HT⟩ := hrel
        by_cases hlt : t < k
        · have hk0 : 0 < k := by omega
          obtain ⟨g, rfl⟩ : ∃ g, A' = some ⟨g, 0, none⟩ := by
            obtain ⟨b, o, _, e, _⟩ := Rs.at_ HSA.out hlt
            have := (HNS.out b o e).1
            subst this
            exact ⟨b, e⟩
          have HSW : Hid (∀ w', Tch Bs V1 w' → SpAt w' V1.heap.size (some ⟨g, 0, none⟩) k ls) := fun w' hT => Rs.tch HSA.out hT (Nat.le_refl _) (fun b o e => (HNS.out b o e).2)
          have LX := SpAt.load (HSW.out wr HT.out) hlt
          obtain ⟨x, hx0⟩ : ∃ x, sg ls t = x := ⟨_, rfl⟩
          have HX0 : Hid (ls.take (t + 1) = ls.take t ++ [x]) := take_stepX (by rw [← hx0]; exact sg_at (by rw [HLL.out]; exact hlt))
          rw [hx0] at LX
          simp only [Nat.zero_add] at LX
          obtain ⟨z, hz⟩ : ∃ z, ig ord t = z := ⟨_, rfl⟩
          have hzr := HOK.out.2.1 t hlt
          rw [hz] at hzr
          obtain ⟨p, hp⟩ : ∃ p : Nat, z = (p : Int) := ⟨z.toNat, by omega⟩
          have hpk : p < k := by omega
          have HZ0 : Hid ((ord.take (t + 1)).map (fun z => sg ls z.toNat) = (ord.take t).map (fun z => sg ls z.toNat) ++ [sg ls p]) := by
            have e1 : ord[t]? = some ((p : Nat) : Int) := by
              have hl : t < ord.length := by rw [HOL.out]; exact hlt
              rw [List.getElem?_eq_getElem hl]
              have : ig ord t = ord[t] := by unfold ig; rw [List.getD_eq_getElem?_getD, List.getElem?_eq_getElem hl]; rfl
              rw [← this, hz, hp]
            show _ = _
            rw [take_stepX e1, List.map_append]
            rfl
          obtain ⟨y, hy0⟩ : ∃ y, sg ls p = y := ⟨_, rfl⟩
          rw [hy0] at HZ0
          have HOC : Hid (∀ w', Tch Bs V1 w' → w'.cell? ⟨w3.heap.size, t, none⟩ = some (.int .i64 ((p : Nat) : Int))) := by
            intro w' hT
            obtain ⟨b, o, e, hb, hcl⟩ := HRA.out.atI hlt
            injection e with e; injection e with e1 e2 _
            subst e1 e2
            rw [Nat.zero_add, hz, hp] at hcl
            exact (hT.cell (p := ⟨w3.heap.size, t, none⟩) (Nat.lt_of_lt_of_le hb HB45.out.size) (HNO.out hk0)).trans hcl
          have HPK := Lib.hid hpk
          have HLT := Lib.hid hlt
          have HY0 := Lib.hid hy0
          obtain ⟨W4, hW4⟩ : ∃ W4, (wr.alloc (.cells #[.int .u64 0, .int .u64 0, .int .i64 0] 35)).setCells wr.heap.size 0 (spC x).toList = W4 := ⟨_, rfl⟩
          have SI : (Instr.storeAt 35 (.pointer (some ⟨wr.heap.size, 0, none⟩)) (spV x)).run Try.prog _ = _ := spB_put wr x
          rw [hW4] at SI
          have hk4 : Blk W4 wr.heap.size 35 (spC x) := by rw [← hW4]; exact spB_blk wr x
          have hb4 : Below wr.heap.size wr W4 := by rw [← hW4]; exact put_bel _ _ _
          have L1 : (Instr.loadAt 35 (.pointer (some ⟨wr.heap.size, 0, none⟩))).run Try.prog W4 = .ok (spV x) W4 := spB_load hk4
          have HH4 : Hid (HsAt W4 Bs [hx, hy]) := HH.out.below hb4
          have HT4 : Hid (Tch Bs V1 W4) := HT.out.trans (Tch.of_below (S := fun _ => False) hb4) (fun _ q => q.elim)
          have hof := b_offerH m HM.out (ls.take t) x W4 HH4.out (i := 0) rfl HX.out (fun k hk => HBV.out k (Nat.le_trans HT4.out.size hk))
          rw [← HX0.out] at hof
          have HOF := Lib.hid hof
          clear hof hk4 hb4 hW4 hx0 hz hzr hp hpk hy0 hk0
          go_upto_region 24 with (first
            | refine wpList_loadE LX _ rfl rfl rfl ?_
            | refine wpList_storeE SI _ _ rfl rfl rfl rfl ?_
            | refine wpList_loadE L1 _ rfl rfl rfl ?_
            | (go_at_call 11; (with_reducible refine HOF.out.mono ?_); rintro e w5 ⟨r, hx2, rfl, h1, h2, h3⟩; have HH5 : Hid (HsAt w5 Bs [hx2, hy]) := h1; have HX5 := Lib.hid h2; have HT5 : Hid (Tch Bs V1 w5) := HT4.out.trans h3 (fun k q => .inl q); clear h1 h2 h3))
          clear LX SI L1 HOF
          have cz := HOC.out w5 HT5.out
          have L2 := SpAt.load (HSW.out w5 HT5.out) HPK.out
          rw [HY0.out] at L2
          simp only [Nat.zero_add] at L2
          have hof := b_offerH m HM.out _ y w5 HH5.out (i := 1) rfl HY.out (fun k hk => HBV.out k (Nat.le_trans HT5.out.size hk))
          rw [← HZ0.out] at hof
          have HOF := Lib.hid hof
          have tp : decide (k ≤ p) = false := decide_eq_false (by have := HPK.out; omega)
          have hpk := HPK.out
          clear hof
          go_wp2_with (first
            | refine wpList_loadE L2 _ rfl rfl rfl ?_
            | (go_at_call 11; (with_reducible refine HOF.out.mono ?_); rintro e w6 ⟨r2, hy2, rfl, h1, h2, h3⟩; have HH6 : Hid (HsAt w6 Bs [hx2, hy2]) := h1; have HY6 := Lib.hid h2; have HT6 : Hid (Tch Bs V1 w6) := HT5.out.trans h3 (fun k q => .inl q); clear h1 h2 h3))
          go_roundw
          case rel => exact ⟨t + 1, hx2, hy2, HLT.out, by go_num, HH6.out, HX5.out, HY6.out, HT6.out⟩
          case measure => have := HLT.out; simp [intOf]; omega
        · obtain rfl : t = k := by omega
          clear hlt ht
          have hlsT : ls.take t = ls := List.take_of_length_le (by rw [HLL.out]; exact Nat.le_refl _)
          have hordT : ord.take t = ord := List.take_of_length_le (by rw [HOL.out]; exact Nat.le_refl _)
          obtain ⟨Lr, hLr⟩ : ∃ Lr, (sortSp ls).take m = Lr := ⟨_, rfl⟩
          obtain ⟨r, hr⟩ : ∃ r, Lr.length = r := ⟨_, rfl⟩
          have hrm : r = min m t := by rw [← hr, ← hLr, List.length_take, sortSp_len, HLL.out]
          have hrr : min (max most 0) (t : Int) = ((r : Nat) : Int) := by rw [hrm]; exact HMM.out.symm
          have HR1 : Hid (r ≤ 1048576) := by show r ≤ _; have := HN.out; omega
          have hx1 := HX.out
          have hy1 := HY.out
          rw [hlsT] at hx1
          rw [hordT] at hy1
          have HLX : Hid (∀ w', HsAt w' Bs [hx, hy] → Calls Try.prog 13 #[.pointer (some ⟨W0.heap.size, 0, none⟩)] w' (RetO Lr w')) := by
            intro w' h
            have := b_listH m HM.out w' h (i := 0) rfl hx1
            rw [hLr] at this
            exact this
          have HLY : Hid (∀ w', HsAt w' Bs [hx, hy] → Calls Try.prog 13 #[.pointer (some ⟨w2.heap.size, 0, none⟩)] w' (RetO Lr w')) := by
            intro w' h
            have := b_listH m HM.out w' h (i := 1) rfl hy1
            rw [sortSp_eq HTP.out, hLr] at this
            exact this
          have HL1 := Lib.hid (HLX.out wr HH.out)
          clear hlsT hordT hLr hx1 hy1 hrm
          have HRL := Lib.hid hr
          clear hr
          go_wp2_with (first
            | (go_at_call 13; (with_reducible refine HL1.out.mono ?_); rintro e w5 ⟨A1, n1, c1, rfl, hs, _, _, _, hb⟩; clear HL1; obtain rfl : r = n1 := (by rw [← HRL.out]; exact hs.len); have HS5 := Lib.hid hs; have HB5 := Lib.hid hb; have HH5 := Lib.hid (HH.out.below hb); have HL2 := Lib.hid (HLY.out w5 HH5.out); clear hs hb)
            | (go_at_call 13; (with_reducible refine HL2.out.mono ?_); rintro e w6 ⟨A2, n2, c2, rfl, hs, _, _, _, hb⟩; clear HL2; obtain rfl : r = n2 := (by rw [← HRL.out]; exact hs.len); have HS6 := Lib.hid (SpAt.more (SpAt.below HS5.out hb) hb.size); have HB6 := Lib.hid (HB5.out.trans (hb.mono HB5.out.size)); have HH6 := Lib.hid (HH5.out.below hb); have HAL := Lib.hid (top_alike A1 A2 r c1 c2 Lr w6 HS6.out hs HR1.out); clear hs hb)
            | (go_at_call 15; (with_reducible refine HAL.out.mono ?_); rintro e w7 ⟨rfl, hb⟩; clear HAL; have HB7 := Lib.hid (HB6.out.trans (hb.mono HB6.out.size)); have HL3 := Lib.hid (HLX.out w7 (HH6.out.below hb)); clear hb)
            | (go_at_call 13; (with_reducible refine HL3.out.mono ?_); rintro e w8 ⟨A3, n3, c3, rfl, hs, _, _, _, hb⟩; clear HL3; obtain rfl : r = n3 := (by rw [← HRL.out]; exact hs.len); have HB8 := Lib.hid (HB7.out.trans (hb.mono HB7.out.size)); clear hs hb))
          go_ret
          exact ⟨rfl, HBW5.out.trans (Below.mono ((HT.out.below (B := w.heap.size) HBW5.out.size HBW.out).trans (Below.mono HB8.out (Nat.le_trans HBW5.out.size HT.out.size))) (Nat.le_refl _))⟩
end Go.Proofs.Ytpcbfoddlpgdjaa
