/- Getter: the law GetterMarks, walked. -/
import Derived.Test.YtkhnnjeinpojkaaGtM
import Derived.Deep.Cut
import Derived.Deep.CutRange
namespace Go.Proofs.Ytkhnnjeinpojkaa
open Go.RowKit
def RetM (w : World) (e : Ending) (w' : World) : Prop := e = .returned (.bool true) ∧ Below w.heap.size w w'
set_option maxRecDepth 100000 in
set_option maxHeartbeats 4000000 in
theorem marks_walk (k id tags kk ef dr dim : Int) (VA : Option Addr) (vn vc : Nat) (cv : List Int) (A : Option Addr) (n c : Nat) (gs : List GD) (w : World) (hv : GV w w.heap.size VA vn vc cv) (hg : Gots w w.heap.size A n gs) (hA : A = none → n = 0 ∧ c = 0) (hvn : vn ≤ maxLen) (hn : n ≤ maxLen) :
    Calls Try.prog 4 #[.agg (callL k id (.slice VA vn vc) tags kk ef dr), .int .i64 dim, .slice A n c] w (RetM w) := by
  obtain ⟨w1, hw1⟩ : ∃ x, (w.alloc (.cells (callL k id (.slice VA vn vc) tags kk ef dr) 27)) = x := ⟨_, rfl⟩
  have C1 : Blk w1 w.heap.size 27 (callL k id (.slice VA vn vc) tags kk ef dr) := by rw [← hw1]; exact Blk.new _ _ _
  have b1 : Below w.heap.size w w1 := by rw [← hw1]; exact (Below.refl _ w).alloc (Nat.le_refl _) _
  have HL := Lib.hid (lives28 w1)
  have HC1 := Lib.hid C1
  have HB1 := Lib.hid b1
  have HV := Lib.hid hv
  have HG := Lib.hid hg
  have HA := Lib.hid hA
  have hS : ∀ W : World, Below w.heap.size w W → Calls Try.prog 10 #[.agg (callL k id (.slice VA vn vc) tags kk ef dr), .slice A n c] W (SmallR (fewE vn gs) W) :=
    fun W hb => small28 k id tags kk ef dr VA vn vc A n c gs W ((hg.below hb).more hb.size) hvn hn
  cases hF : fewE vn gs with
  | false =>
    rw [hF] at hS
    have HS := Lib.hid hS
    clear C1 b1 hv hg hA hvn hn hF hS
    unfold callL at hw1 ⊢
    go_enter Try.func4, Try.ntmps4
    go_upto_region 1 with fail
    (try rw [hw1])
    clear hw1
    go_wp2_with fail
    refine HL.out.mono ?_
    rintro e W2 ⟨rfl, b2⟩
    have bW : Below w.heap.size w W2 := HB1.out.trans (b2.mono HB1.out.size)
    have C2 := Blk.below HC1.out b2 HC1.out.lt
    have L2 : (Instr.loadAt 27 (.pointer (some ⟨w.heap.size, 0, none⟩))).run Try.prog W2 = .ok (.agg (callL k id (.slice VA vn vc) tags kk ef dr)) W2 := row_load C2 Try.underlying27 rfl callT
    have HS2 := Lib.hid (HS.out W2 bW)
    have HBW := Lib.hid bW
    clear bW C2 b2 HL HC1 HB1 HS
    go_wp2_with (first | refine wpList_loadE L2 _ rfl rfl rfl ?_)
    refine HS2.out.mono ?_
    rintro e W3 ⟨rfl, b3⟩
    have hb := Lib.hid (HBW.out.trans (b3.mono HBW.out.size))
    clear b3 L2
    go_wp2_with fail
    go_ret
    exact ⟨rfl, hb.out⟩
  | true =>
    obtain ⟨q1, q2, q3⟩ := fewE_iff.1 hF
    rw [hF] at hS
    have HS := Lib.hid hS
    have hN1 := Lib.hid q1
    have hN2 := Lib.hid q2
    have hN3 := Lib.hid q3
    clear C1 b1 hv hg hA hvn hn hF q1 q2 q3 hS
    unfold callL at hw1 ⊢
    go_enter Try.func4, Try.ntmps4
    go_upto_region 1 with fail
    (try rw [hw1])
    clear hw1
    go_wp2_with fail
    refine HL.out.mono ?_
    rintro e W2 ⟨rfl, b2⟩
    have bW : Below w.heap.size w W2 := HB1.out.trans (b2.mono HB1.out.size)
    have C2 := Blk.below HC1.out b2 HC1.out.lt
    have L2 : (Instr.loadAt 27 (.pointer (some ⟨w.heap.size, 0, none⟩))).run Try.prog W2 = .ok (.agg (callL k id (.slice VA vn vc) tags kk ef dr)) W2 := row_load C2 Try.underlying27 rfl callT
    have HS2 := Lib.hid (HS.out W2 bW)
    have HBW := Lib.hid bW
    have HC2 := Lib.hid C2
    clear bW C2 b2 HL HC1 HB1 HS
    go_wp2_with (first | refine wpList_loadE L2 _ rfl rfl rfl ?_)
    refine HS2.out.mono ?_
    rintro e W3 ⟨rfl, b3⟩
    have bW : Below w.heap.size w W3 := HBW.out.trans (b3.mono HBW.out.size)
    have C3 := HC2.out.below b3 HC2.out.lt
    have L3 : (Instr.loadAt 27 (.pointer (some ⟨w.heap.size, 0, none⟩))).run Try.prog W3 = .ok (.agg (callL k id (.slice VA vn vc) tags kk ef dr)) W3 := row_load C3 Try.underlying27 rfl callT
    have hvW : VV W3 (.slice VA vn vc) cv := by have := HV.out.below bW; exact (show GV W3 w.heap.size VA vn vc cv from this).vv hN2.out bW.size
    have HN := Lib.hid (gt_new k id tags kk ef dr dim (.slice VA vn vc) cv W3 hvW)
    have HBW3 := Lib.hid bW
    clear L2 b3 bW C3 hvW HS2 HBW HC2
    go_wp2_with (first | refine wpList_loadE L3 _ rfl rfl rfl ?_)
    refine HN.out.mono ?_
    rintro e wc ⟨⟨T, V1, rfl, hT, kT, v1, _⟩, b4⟩
    have HP : Hid (PM w wc T ⟨k, id, V1, tags, kk, ef, dr, dim⟩ cv as0) := ⟨at_new kT, v1, Nat.le_trans HBW3.out.size hT, HBW3.out.trans (b4.mono HBW3.out.size)⟩
    have HGx := Lib.hid ((HG.out.below HP.out.b).more HP.out.b.size)
    clear L3 HN HBW3 hT kT v1 b4
    obtain ⟨i, hi, hz, hz1, hz2⟩ := info_parts info_got
    have bN : Below wc.heap.size wc (wc.alloc (.cells gd0.cells 42)) := bel_new _ _
    have hown : Hid ((wc.alloc (.cells gd0.cells 42)).ownsRow wc.heap.size 42 7 (.slice (some ⟨wc.heap.size, 0, none⟩) 1 1) 1 gd0.cells.toList) :=
      ⟨rfl, Or.inr ⟨wc.heap.size, 1, gd0.cells, rfl, Nat.le_refl _, heap_alloc_new wc _, Nat.le_refl _, by unfold maxLen; omega, rfl, rfl⟩⟩
    have hBN := Lib.hid bN
    have hTD : Hid (T < wc.heap.size) := HP.out.t.lt
    have hlen := Lib.hid HGx.out.len
    clear bN
    unfold GD.cells gotL GD.L GD.V gd0 at hown hBN
    go_upto_region 9 with fail
    go_cut [28, 29, 30] from 25 to 30 (fun s32 s33 s34 wx => s34 = .int .i64 0 ∧ Hid (s33 = .int .i64 ((1 + n : Nat) : Int) ∧ ∃ g cap, s32 = .slice (some ⟨g, 0, none⟩) (1 + n) cap ∧ wc.heap.size ≤ g ∧ Gots wx wx.heap.size (some ⟨g, 0, none⟩) (1 + n) (gd0 :: gs) ∧ Below wc.heap.size wc wx))
    case first =>
      cases A with
      | none =>
        obtain ⟨rfl, rfl⟩ := HA.out rfl
        have hg0 : gs = [] := List.eq_nil_of_length_eq_zero hlen.out
        subst hg0
        go_wp2_with (at_builtin; refine wpList_append_own_none rfl (.tmp 26) (.tmp 27) 28 rfl wc.heap.size 42 i 7 Try.underlying28 hi _ 1 _ rfl hown.out rfl ?_)
        go_meet
        exact ⟨rfl, Lib.hid ⟨rfl, by
          obtain ⟨g, cap, e, hg, hr⟩ := gots_own (gs := []) (n := 0) hown.out rfl (B := 0) (by simp) (Nat.zero_le _)
          exact ⟨g, cap, e, hg, hr, hBN.out⟩⟩⟩
      | some a =>
        have hfl : Hid ((∀ j u, (gflat gs)[j]? = some u → (wc.alloc (.cells gd0.cells 42)).cell? (Addr.add a j) = some u) ∧ (∀ u ∈ gflat gs, u.oneCell' = true) ∧ (gflat gs).length = n * 7) := by
          have hl : (gflat gs).length = n * 7 := by rw [gflat_len, hlen.out]
          refine ⟨?_, gflat_one gs, hl⟩
          by_cases h0 : n = 0
          · subst h0
            have : gflat gs = [] := List.eq_nil_of_length_eq_zero hl
            rw [this]; simp
          · obtain ⟨b, o, e, hb, hc⟩ := (HGx.out.1.below hBN.out).flat (by decide) (by omega)
            injection e with e
            subst e
            exact hc
        have h63 : Hid (1 + n ≤ maxLen) := by have h1 := hN1.out; have h2 := hlen.out; show _ ≤ _; unfold maxLen; omega
        have hby : Hid ((1 + n) * 88 ≤ 140737488355328) := by have h1 := hN1.out; have h2 := hlen.out; show _ ≤ _; omega
        have hNi : IntKind.i64.wrap ((1 : Int) + n) = 1 + n := by have h1 := hN1.out; have h2 := hlen.out; simp only [IntKind.wrap, IntKind.bits, IntKind.signed]; simp; omega
        have HNi := Lib.hid hNi
        clear hNi
        unfold GD.cells gotL GD.L GD.V gd0 at hfl
        go_wp2_with (at_builtin; go_loud (refine wpList_append_own _ rfl (.tmp 26) (.tmp 27) 28 rfl wc.heap.size 42 i (.agg #[.bool false, .int .i64 0, .int .i64 0, .slice none 0 0, .int .u64 0, .slice none 0 0, .int .u64 0]) 7 88 Try.underlying28 hi hz hz1 hz2 rfl (by decide) (.slice (some ⟨wc.heap.size, 0, none⟩) 1 1) 1 _ (by simp [Act.eval]) hown.out a n c (gflat gs) (by simp [Act.eval]) hfl.out.2.2 hfl.out.1 hfl.out.2.1 h63.out hby.out hBN.out.size ?_; intro v' w1 ho hg _; have hbb : Hid (Below wc.heap.size wc w1) := hBN.out.grown hg hBN.out.size (fun k hk => (by injection hk with hk; exact Nat.le_of_eq hk)); obtain ⟨gg, cap, rfl, hgg, hGG⟩ := gots_own (gs := gs) ho hlen.out (fun x hx => (HGx.out.2 x hx).below hbb.out) hbb.out.size; replace ho := Lib.hid hGG; replace hg := Lib.hid hgg; clear hGG hgg))
        go_meet
        exact ⟨rfl, Lib.hid ⟨rfl, _, _, rfl, hg.out, ho.out, hbb.out⟩⟩
    case rest =>
      obtain ⟨rfl, hR⟩ := hcut
      obtain ⟨rfl, g, cap, rfl, hg, hG, hb⟩ := hR.out
      have HP2 := Lib.hid (HP.out.below hb)
      have HG2 := Lib.hid hG
      have hgT : Hid (g ≠ T) := by have := hTD.out; show _ ≠ _; omega
      clear hR hg hG hb hown hBN HP HGx hTD hz hz1 hz2 hi
      go_wp2_with fail
      have hnb : n ≤ 400 := by have h1 := hN1.out; have h2 := hlen.out; omega
      go_loopw [8, 9, 30] (fun s8 s9 s30 wr => ∃ (j : Nat) (p : Int) (e : Bool), j ≤ 1 + n ∧ s8 = .int .i64 p ∧ s9 = .bool e ∧ s30 = .int .i64 j ∧ Hid (∃ x, x.Ok ∧ PM w wr T ⟨k, id, V1, tags, kk, ef, dr, dim⟩ cv x ∧ Gots wr wr.heap.size (some ⟨g, 0, none⟩) (1 + n) (gd0 :: gs) ∧ Pin x p ∧ e = decide (x.pc = 9) ∧ rem x.pc ≤ 7 - j)) (fun _ _ s30 _ => 1 + n - (intOf s30).toNat)
      case atStart => exact ⟨0, 0, false, Nat.zero_le _, rfl, rfl, rfl, Lib.hid ⟨_, as0_ok, HP2.out, HG2.out, pin0, rfl, by decide⟩⟩
      case round =>
        obtain ⟨j, p, e, hj, rfl, rfl, rfl, hI⟩ := hrel
        by_cases hlt : j < 1 + n
        · obtain ⟨x, hx, hp, hG, hpin, he, hrem⟩ := hI.out
          obtain ⟨b', o', gj, e', hbb, hgj, hr, hv⟩ := hG.at_ hlt
          injection e' with e'
          injection e' with e1 e2
          subst e1 e2
          rw [Nat.zero_add] at hr
          have hvn : ∀ q ∈ gd0 :: gs, q.vn ≤ 50 := by
            intro q hq
            rcases List.mem_cons.1 hq with rfl | hq
            · exact Nat.zero_le _
            · exact (hN3.out q hq).2
          have LG : (Instr.loadAt 42 (.pointer (some ⟨g, j * 7, none⟩))).run Try.prog wr = .ok (.agg gj.cells) wr := range_load hr Try.underlying42 rfl gotT
          have SG := got_put wr gj
          have b1 := got_bel wr gj
          have G1 := got_at wr gj
          obtain ⟨X1, hX1⟩ : ∃ y, (wr.alloc (.cells gd0.cells 42)).setCells wr.heap.size 0 gj.cells.toList = y := ⟨_, rfl⟩
          rw [hX1] at SG b1 G1
          have P1 := hp.below b1
          have hmem := List.mem_of_getElem? hgj
          have vv1 : VV X1 gj.V gj.vec := (hv.below b1).vv (hvn gj hmem) b1.size
          have HG1 := Lib.hid ((hG.below b1).more b1.size)
          have HP1 := Lib.hid P1
          have HVN := Lib.hid hvn
          have LG1 := gd_load G1
          have hyok := step_ok ⟨k, id, V1, tags, kk, ef, dr, dim⟩ cv x hx gj.ok gj.n gj.id gj.vec gj.tags
          have hyrem := step_rem ⟨k, id, V1, tags, kk, ef, dr, dim⟩ cv x hx gj.ok gj.n gj.id gj.vec gj.tags
          have hypcs := step_pcs ⟨k, id, V1, tags, kk, ef, dr, dim⟩ cv x hx gj.ok gj.n gj.id gj.vec gj.tags
          have HGN := Lib.hid (gt_next T ⟨k, id, V1, tags, kk, ef, dr, dim⟩ cv x gj.ok gj.n gj.m gj.L gj.id gj.V gj.vec gj.tags X1 hx P1.t P1.v1 vv1 (P1.notT _ _ vv1))
          obtain ⟨y, hy⟩ : ∃ y, x.step ⟨k, id, V1, tags, kk, ef, dr, dim⟩ cv gj.ok gj.n gj.id gj.vec gj.tags = y := ⟨_, rfl⟩
          have hypin := step_pin hy hx hpin
          rw [hy] at HGN hyok hyrem hypcs
          obtain ⟨E1, E2, E3, E4⟩ := ok_end hyok
          have hx9 := hx.pc
          have hy9 := hyok.pc
          have hyz := rem_zero hy9
          have hY : Hid (y.Ok) := hyok
          -- the cases: the place before, and behind
          have HC : Hid ((e = true ∧ isB y = false ∧ y.k = 0 ∧ y.pc = 9 ∧ y.marks = 1 ∧ p = 0) ∨ (e = false ∧ isB y = false ∧ y.k = 0 ∧ y.pc = 9 ∧ y.marks = 1 ∧ p = 0) ∨
              (e = false ∧ isB y = true ∧ y.k = 6 ∧ y.pc ≠ 9 ∧ (y.marks = 0 ∨ y.marks = 1) ∧ j < 7) ∨ (e = false ∧ isB y = true ∧ y.k ≠ 6 ∧ y.pc ≠ 9 ∧ (y.marks = 0 ∨ y.marks = 1) ∧ j < 7)) := by
            show _ ∨ _
            by_cases q9 : y.pc = 9
            · have hb : isB y = false := by unfold isB; simp [q9]
              have hp0 : p = 0 := hpin (by omega)
              by_cases x9 : x.pc = 9
              · exact .inl ⟨by rw [he]; simp [x9], hb, E1 q9, q9, E3 q9, hp0⟩
              · exact .inr (.inl ⟨by rw [he]; simp [x9], hb, E1 q9, q9, E3 q9, hp0⟩)
            · have hb : isB y = true := by unfold isB; simp [q9]
              have x9 : x.pc ≠ 9 := by omega
              have hj7 : j < 7 := by
                by_cases h7 : j < 7
                · exact h7
                · exact absurd (hyz (by omega)) q9
              have he' : e = false := by rw [he]; simp [x9]
              by_cases k6 : y.k = 6
              · exact .inr (.inr (.inl ⟨he', hb, k6, q9, E4, hj7⟩))
              · exact .inr (.inr (.inr ⟨he', hb, k6, q9, E4, hj7⟩))
          have HR : Hid (rem y.pc ≤ 7 - (j + 1)) := by show _ ≤ _; omega
          have HPIN := Lib.hid hypin
          rw [show gd0.cells = #[.bool false, .int .i64 0, .int .i64 0, .slice none 0 0, .int .u64 0, .slice none 0 0, .int .u64 0] from rfl] at SG
          clear hX1 P1 vv1 b1 G1 hp hG hr hv hbb hgj hmem hvn hI hy hyok hyrem hypcs hypin E1 E2 E3 E4 hx9 hy9 hyz hpin he hrem hx
          go_upto_region 12 with (first | refine wpList_loadE LG _ rfl rfl rfl ?_ | refine wpList_storeE SG _ _ rfl rfl rfl rfl ?_)
          clear LG SG
          go_wp2_with (first | refine wpList_loadE LG1 _ rfl rfl rfl ?_)
          refine HGN.out.mono ?_
          rintro e' X5 ⟨rfl, ha, ht⟩
          have S6 := op_put X5 y
          have P6 := (HP1.out.task ha ht).below (op_bel X5 y)
          have Q6 := op_at X5 y
          have GT6 := ((HG1.out.tch ht hgT.out (fun q hq => HP1.out.notT _ _ ((HG1.out.2 q hq).vv (HVN.out q hq) (Nat.le_refl _)))).below (op_bel X5 y)).more (op_bel X5 y).size
          obtain ⟨X6, hX6⟩ : ∃ x, (X5.alloc (.cells opZ 44)).setCells X5.heap.size 0 (opX y).toList = x := ⟨_, rfl⟩
          rw [hX6] at S6 P6 Q6 GT6
          unfold opZ at S6
          have HP6 := Lib.hid P6
          have HGT6 := Lib.hid GT6
          have o0 : X6.cell? ⟨X5.heap.size, 0, none⟩ = some (.int .i64 y.k) := Q6.cell 0
          have o3 : X6.cell? ⟨X5.heap.size, 3, none⟩ = some (.int .i64 y.n) := Q6.cell 3
          obtain ⟨TQ, kT, _, _⟩ := P6.t
          have HM := gt_marks T ⟨k, id, V1, tags, kk, ef, dr, dim⟩ (tsOf y TQ) X6 kT
          rw [show (tsOf y TQ).marks = y.marks from rfl] at HM
          replace HM := Lib.hid HM
          clear hX6 P6 Q6 GT6 ha ht HP1 HG1 HGN LG1 kT
          go_upto_region 13 with (first | refine wpList_storeE S6 _ _ rfl rfl rfl rfl ?_)
          clear S6
          have fin : ∀ (p' : Int) (e' : Bool), Pin y p' → e' = decide (y.pc = 9) → Hid (∃ x, x.Ok ∧ PM w X6 T ⟨k, id, V1, tags, kk, ef, dr, dim⟩ cv x ∧ Gots X6 X6.heap.size (some ⟨g, 0, none⟩) (1 + n) (gd0 :: gs) ∧ Pin x p' ∧ e' = decide (x.pc = 9) ∧ rem x.pc ≤ 7 - (j + 1)) :=
            fun p' e' h1 h2 => Lib.hid ⟨y, hY.out, HP6.out, HGT6.out, h1, h2, HR.out⟩
          have FIN := Lib.hid fin
          clear fin HP6 HGT6 HR HVN
          rcases HC.out with ⟨rfl, hb, hk, h9, hm, rfl⟩ | ⟨rfl, hb, hk, h9, hm, rfl⟩ | ⟨rfl, hb, hk, h9, hm, h7⟩ | ⟨rfl, hb, hk, h9, hm, h7⟩
          · have F := FIN.out 0 true ((HPIN.out.2 (by rw [hk]; decide))) (by simp [h9])
            rw [hm] at HM
            rw [hk] at o0
            rw [hb]
            clear FIN HC HPIN hb hk h9 hm hY
            go_wp2_with (go_at_call 17; refine HM.out.mono ?_; rintro e1 w1' ⟨rfl, rfl⟩)
            go_roundw
            case rel =>
              (repeat apply Exists.intro)
              exact ⟨⟨j + 1, _, _, by omega, rfl, rfl, by go_num, F⟩, rfl⟩
            case measure => simp [intOf]; omega
          · have F := FIN.out 0 true ((HPIN.out.2 (by rw [hk]; decide))) (by simp [h9])
            rw [hm] at HM
            rw [hk] at o0
            rw [hb]
            clear FIN HC HPIN hb hk h9 hm hY
            go_wp2_with (go_at_call 17; refine HM.out.mono ?_; rintro e1 w1' ⟨rfl, rfl⟩)
            go_roundw
            case rel =>
              (repeat apply Exists.intro)
              exact ⟨⟨j + 1, _, _, by omega, rfl, rfl, by go_num, F⟩, rfl⟩
            case measure => simp [intOf]; omega
          · have F := FIN.out y.n false (HPIN.out.1 hk) (by simp [h9])
            rw [hk] at o0
            rw [hb]
            clear FIN HC HPIN hb hk h9 hY
            rcases hm with hm | hm
            all_goals (
              rw [hm] at HM
              clear hm
              go_wp2_with (go_at_call 17; refine HM.out.mono ?_; rintro e1 w1' ⟨rfl, rfl⟩)
              go_roundw
              case rel =>
                (repeat apply Exists.intro)
                exact ⟨⟨j + 1, _, _, by omega, rfl, rfl, by go_num, F⟩, rfl⟩
              case measure => simp [intOf]; omega)
          · have F := FIN.out p false (HPIN.out.2 hk) (by simp [h9])
            rw [hb]
            have hk6 : (y.k == 6) = false := beq_false_of_ne hk
            clear FIN HC HPIN hb hk h9 hY
            rcases hm with hm | hm
            all_goals (
              rw [hm] at HM
              clear hm
              go_wp2_with (go_at_call 17; refine HM.out.mono ?_; rintro e1 w1' ⟨rfl, rfl⟩)
              go_roundw
              case rel =>
                (repeat apply Exists.intro)
                exact ⟨⟨j + 1, _, _, by omega, rfl, rfl, by go_num, F⟩, rfl⟩
              case measure => simp [intOf]; omega)
        · obtain ⟨x, _, hp, _⟩ := hI.out
          have hb := Lib.hid hp.b
          clear hp
          go_wp2_with fail
          go_ret
          exact ⟨rfl, hb.out⟩
end Go.Proofs.Ytkhnnjeinpojkaa
