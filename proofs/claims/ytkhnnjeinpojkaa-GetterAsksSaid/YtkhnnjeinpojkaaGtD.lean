/- Getter: the law GetterAsks, walked. -/
import Derived.Test.YtkhnnjeinpojkaaGtE
import Derived.Outline
import Derived.Deep.Cut
import Derived.Deep.CutRange
namespace Go.Proofs.Ytkhnnjeinpojkaa
open Go.RowKit
theorem GV.below' {w w' : World} {B : Nat} {A : Option Addr} {n c : Nat} {vec : List Int} (h : GV w B A n c vec) (hb : Below B w w') (hB : B ≤ w'.heap.size) : GV w' w'.heap.size A n c vec := ⟨h.1, (h.2.below hb).more hB⟩
theorem PB.start {w W2 w4 : World} {T D : Nat} {c : Tk} {V2 : Value} {cv : List Int} (hw : Below w.heap.size w W2) (h4 : Below W2.heap.size W2 w4) (kT : TaskAt w4 T c ts0) (v1 : VV w4 c.V cv) (v2 : VV w4 V2 cv) (dz : Blk w4 D 39 docZ) (ne : T ≠ D) (hT : w.heap.size ≤ T) (hD : w.heap.size ≤ D) :
    PB w (w4.setCells D 0 (docA { c with V := V2 } as0 (.slice none 0 0)).toList) T D c V2 cv as0 as0 := by
  have b4 : Below w.heap.size w w4 := hw.trans (h4.mono hw.size)
  have ht : Tch (fun k => k = D) w4 (w4.setCells D 0 (docA { c with V := V2 } as0 (.slice none 0 0)).toList) := Tch.setCells (S := fun k => k = D) (g := D) rfl _ _ _ (Tch.refl _ _)
  have hn : ∀ V vec, VV w4 V vec → NotAt D V := fun V vec hv => hv.notBlk dz (by
    intro u hu z
    simp only [docZ, List.mem_cons, List.not_mem_nil, or_false] at hu
    rcases hu with rfl | rfl | rfl | rfl | rfl | rfl | rfl | rfl | rfl | rfl | rfl | rfl | rfl | rfl | rfl | rfl | rfl | rfl | rfl | rfl | rfl | rfl | rfl | rfl | rfl | rfl | rfl <;> simp)
  exact ⟨(at_new kT).tch ht ne hn, v1.tch ht (hn _ _ v1) (fun _ _ q => q), v2.tch ht (hn _ _ v2) (fun _ _ q => q), ⟨_, dz.putA _ rfl, VV.nil_ _⟩, ne, hT, hD, below_put b4 (Nat.le_refl _) hD _ _⟩
def StartR (w : World) (k id tags kk ef dr dim : Int) (cv : List Int) (s7 s8 : Value) (wx : World) : Prop := ∃ T D V1 V2, s7 = .pointer (some ⟨T, 0, none⟩) ∧ s8 = .pointer (some ⟨D, 0, none⟩) ∧ PB w wx T D ⟨k, id, V1, tags, kk, ef, dr, dim⟩ V2 cv as0 as0
def RetT (w : World) (e : Ending) (w' : World) : Prop := e = .returned (.bool true) ∧ Below w.heap.size w w'
set_option maxRecDepth 100000 in
set_option maxHeartbeats 4000000 in
theorem asks_walk (k id tags kk ef dr dim : Int) (VA : Option Addr) (vn vc : Nat) (cv : List Int) (A : Option Addr) (n c : Nat) (gs : List GD) (w : World) (hv : GV w w.heap.size VA vn vc cv) (hg : Gots w w.heap.size A n gs) (hA : A = none → n = 0 ∧ c = 0) (hvn : vn ≤ maxLen) (hn : n ≤ maxLen) :
    Calls Try.prog 3 #[.agg (callL k id (.slice VA vn vc) tags kk ef dr), .int .i64 dim, .slice A n c] w (RetT w) := by
  obtain ⟨w1, hw1⟩ : ∃ x, (w.alloc (.cells (callL k id (.slice VA vn vc) tags kk ef dr) 27)) = x := ⟨_, rfl⟩
  have C1 : Blk w1 w.heap.size 27 (callL k id (.slice VA vn vc) tags kk ef dr) := by rw [← hw1]; exact Blk.new _ _ _
  have b1 : Below w.heap.size w w1 := by rw [← hw1]; exact (Below.refl _ w).alloc (Nat.le_refl _) _
  have L1 : (Instr.loadAt 27 (.pointer (some ⟨w.heap.size, 0, none⟩))).run Try.prog w1 = .ok (.agg (callL k id (.slice VA vn vc) tags kk ef dr)) w1 := row_load C1 Try.underlying27 rfl callT
  have HS := Lib.hid (small28 k id tags kk ef dr VA vn vc A n c gs w1 ((hg.below b1).more b1.size) hvn hn)
  have HC1 := Lib.hid C1
  have HB1 := Lib.hid b1
  have HV := Lib.hid hv
  have HG := Lib.hid hg
  have HA := Lib.hid hA
  cases hF : fewE vn gs with
  | false =>
    rw [hF] at HS
    clear C1 b1 hv hg hA hvn hn hF
    unfold callL at hw1 L1 HS ⊢
    go_enter Try.func3, Try.ntmps3
    go_upto_region 1 with fail
    (try rw [hw1])
    clear hw1
    go_wp2_with (first | refine wpList_loadE L1 _ rfl rfl rfl ?_)
    refine HS.out.mono ?_
    rintro e W2 ⟨rfl, b2⟩
    have hb := Lib.hid (HB1.out.trans (b2.mono HB1.out.size))
    have HL := Lib.hid (lives28 W2)
    clear b2 L1
    go_wp2_with fail
    refine HL.out.mono ?_
    rintro e W3 ⟨rfl, b3⟩
    have hb' := Lib.hid (hb.out.trans (b3.mono hb.out.size))
    clear b3
    go_wp2_with fail
    go_ret
    exact ⟨rfl, hb'.out⟩
  | true =>
    obtain ⟨q1, q2, q3⟩ := fewE_iff.1 hF
    rw [hF] at HS
    have hN1 := Lib.hid q1
    have hN2 := Lib.hid q2
    have hN3 := Lib.hid q3
    clear C1 b1 hv hg hA hvn hn hF q1 q2 q3
    unfold callL at hw1 L1 HS ⊢
    go_enter Try.func3, Try.ntmps3
    go_upto_region 1 with fail
    (try rw [hw1])
    clear hw1
    go_wp2_with (first | refine wpList_loadE L1 _ rfl rfl rfl ?_)
    refine HS.out.mono ?_
    rintro e W2 ⟨rfl, b2⟩
    have C2 := Blk.below HC1.out b2 HC1.out.lt
    clear HS L1 HC1
    go_wp2_with fail
    have bW : Below w.heap.size w W2 := HB1.out.trans (b2.mono HB1.out.size)
    have hvW : VV W2 (.slice VA vn vc) cv := (GV.below' HV.out bW bW.size).vv hN2.out (Nat.le_refl _)
    have HW := Lib.hid hvW
    have HBW := Lib.hid bW
    have HBD : Hid (Below W2.heap.size W2 W2.drew) := below_drewN (Below.refl _ W2) 1
    have hR : ∀ w' : World, Below W2.heap.size W2 w' → w'.rangeAt w.heap.size 0 (callL k id (.slice VA vn vc) tags kk ef dr).toList := fun w' hb => (C2.below hb C2.lt).range
    have HR := Lib.hid hR
    have hlt := Lib.hid C2.lt
    clear bW hvW b2 HB1 C2 hR
    go_cut [7, 8] from 21 to 26 (fun s7 s8 wx => Hid (StartR w k id tags kk ef dr dim cv s7 s8 wx))
    case first =>
      refine wp_region_held_drew (S := fun w' => Below W2.heap.size W2 w') (by kernel_rfl) HBD.out (fun hHeld => ?_)
      refine wpAnyH_take (i := 0) rfl (by kernel_rfl) (by kernel_rfl) (by kernel_rfl) (fun _ _ _ h => h) (yieldsIf_load_mid (by rfl) 27 _ rfl _ _ rfl (callL k id (.slice VA vn vc) tags kk ef dr).toList _ (fun _ q => HR.out _ q) Try.underlying27 rfl callT) hHeld ?_
      (try simp only [List.getElem_toArray, List.getElem_cons_zero, Act.put, List.setIfInBounds_toArray, List.set_cons_zero, List.set_cons_succ])
      refine wpAnyH_take (i := 3) rfl (by kernel_rfl) (by kernel_rfl) (by kernel_rfl) (fun _ _ _ h => h) (yieldsIf_load_mid (by rfl) 27 _ rfl _ _ rfl (callL k id (.slice VA vn vc) tags kk ef dr).toList _ (fun _ q => HR.out _ q) Try.underlying27 rfl callT) hHeld ?_
      (try simp only [List.getElem_toArray, List.getElem_cons_zero, List.getElem_cons_succ, Act.put, List.setIfInBounds_toArray, List.set_cons_zero, List.set_cons_succ])
      refine wpAnyH_take (i := 1) (v := .int .i64 dim) rfl (by kernel_rfl) (by kernel_rfl) (by kernel_rfl) (fun _ _ _ h => h) (.inl ⟨by rfl, fun _ _ => by rfl⟩) hHeld ?_
      (try simp only [List.getElem_toArray, List.getElem_cons_zero, List.getElem_cons_succ, Act.put, List.setIfInBounds_toArray, List.set_cons_zero, List.set_cons_succ])
      refine wpAnyH_take (i := 4) (v := .int .i64 dim) rfl (by kernel_rfl) (by kernel_rfl) (by kernel_rfl) (fun _ _ _ h => h) (.inl ⟨by rfl, fun _ _ => by rfl⟩) hHeld ?_
      (try simp only [List.getElem_toArray, List.getElem_cons_zero, List.getElem_cons_succ, Act.put, List.setIfInBounds_toArray, List.set_cons_zero, List.set_cons_succ])
      refine wpAnyH_all (rs := [2, 6]) (by kernel_rfl) (by simp) (fun i hi => ?_)
      have hB0 : Below W2.heap.size W2 W2.drew := hHeld
      rcases (by simpa using hi : i = 2 ∨ i = 6) with rfl | rfl
      · refine wpOp_call 12 #[.agg (callL k id (.slice VA vn vc) tags kk ef dr), .int .i64 dim] _ rfl (by rfl) (by kernel_rfl) (gt_new k id tags kk ef dr dim (.slice VA vn vc) cv (W2.drew) (HW.out.below (hB0))) ?_
        rintro e w3 ⟨⟨T, V1, rfl, hT, kT, v1, _⟩, b3⟩
        have hB3 : Below W2.heap.size W2 w3 := (hB0).trans (b3.mono (hB0).size)
        refine ⟨_, rfl, hB3, ?_⟩
        (try simp only [List.getElem_toArray, List.getElem_cons_zero, List.getElem_cons_succ, Act.put, List.setIfInBounds_toArray, List.set_cons_zero, List.set_cons_succ])
        refine wpAnyH_all (rs := [5, 6]) (by kernel_rfl) (by simp) (fun i hi => ?_)
        rcases (by simpa using hi : i = 5 ∨ i = 6) with rfl | rfl
        · refine wpOp_call 13 #[.agg (callL k id (.slice VA vn vc) tags kk ef dr), .int .i64 dim] _ rfl (by rfl) (by kernel_rfl) (rf_new k id tags kk ef dr dim (.slice VA vn vc) cv (w3) (HW.out.below (hB3))) ?_
          rintro e w4 ⟨⟨V2, rfl, v2⟩, b4⟩
          obtain ⟨B, m, q, rfl⟩ := v2.slice
          have hB4 : Below W2.heap.size W2 w4 := (hB3).trans (b4.mono (hB3).size)
          refine ⟨_, rfl, hB4, ?_⟩
          (try simp only [List.getElem_toArray, List.getElem_cons_zero, List.getElem_cons_succ, Act.put, List.setIfInBounds_toArray, List.set_cons_zero, List.set_cons_succ])
          refine wpAnyH_all (rs := [6]) (by kernel_rfl) (by simp) (fun i hi => ?_)
          obtain rfl : i = 6 := by simpa using hi
          refine wpOp_value (.pointer (some ⟨(w4).heap.size, 0, none⟩)) (w' := (w4).alloc (.cells docZ 39)) rfl (by rfl) (by rfl) ?_
          refine ⟨(hB4).alloc (hB4).size _, ?_⟩
          (try simp only [List.getElem_toArray, List.getElem_cons_zero, List.getElem_cons_succ, Act.put, List.setIfInBounds_toArray, List.set_cons_zero, List.set_cons_succ])
          have hX : Below W2.heap.size W2 (w4.alloc (.cells docZ 39)) := hB4.alloc hB4.size _
          have PF := PB.start (c := ⟨k, id, V1, tags, kk, ef, dr, dim⟩) HBW.out hX (Blk.alloc (Blk.below kT b4 (Blk.lt kT)) _) ((v1.below b4).below (bel_new _ _)) (v2.below (bel_new _ _)) (Blk.new w4 39 docZ) (by have := Blk.lt kT; have := b4.size; omega) (by have := HBW.out.size; exact Nat.le_trans this hT) (Nat.le_trans HBW.out.size hB4.size)
          have SR := doc_store (Blk.new w4 39 docZ) rfl ⟨k, id, .slice B m q, tags, kk, ef, dr, dim⟩ as0 (.slice none 0 0) rfl rfl
          have SB : Below W2.heap.size W2 ((w4.alloc (.cells docZ 39)).setCells (w4.heap.size) 0 (docA ⟨k, id, .slice B m q, tags, kk, ef, dr, dim⟩ as0 (.slice none 0 0)).toList) := below_put hX (Nat.le_refl _) (by have := hlt.out; exact hB4.size) _ _
          refine wpAnyH_take (i := 7) (v := .pointer (some ⟨T, 0, none⟩)) rfl (by kernel_rfl) (by kernel_rfl) (by kernel_rfl) (fun _ _ _ h => h) (.inl ⟨by rfl, fun _ _ => by rfl⟩) hX ?_
          (try simp only [List.getElem_toArray, List.getElem_cons_zero, List.getElem_cons_succ, Act.put, List.setIfInBounds_toArray, List.set_cons_zero, List.set_cons_succ])
          refine wpAnyH_store 8 39 (.tmp 8) (.tmp 26) (by kernel_rfl) (by rfl) (by kernel_rfl) (by rfl) (by rfl) (by rfl) SR SB ?_
          (try simp only [List.getElem_toArray, List.getElem_cons_zero, List.getElem_cons_succ, Act.put])
          refine wpAnyH_done (by kernel_rfl) ?_ _
          go_wp2_with fail
          go_meet
          exact Lib.hid ⟨T, _, _, _, rfl, rfl, PF⟩
        · refine wpOp_value (.pointer (some ⟨(w3).heap.size, 0, none⟩)) (w' := (w3).alloc (.cells docZ 39)) rfl (by rfl) (by rfl) ?_
          refine ⟨(hB3).alloc (hB3).size _, ?_⟩
          (try simp only [List.getElem_toArray, List.getElem_cons_zero, List.getElem_cons_succ, Act.put, List.setIfInBounds_toArray, List.set_cons_zero, List.set_cons_succ])
          refine wpAnyH_all (rs := [5]) (by kernel_rfl) (by simp) (fun i hi => ?_)
          obtain rfl : i = 5 := by simpa using hi
          refine wpOp_call 13 #[.agg (callL k id (.slice VA vn vc) tags kk ef dr), .int .i64 dim] _ rfl (by rfl) (by kernel_rfl) (rf_new k id tags kk ef dr dim (.slice VA vn vc) cv (w3.alloc (.cells docZ 39)) (HW.out.below (hB3.alloc hB3.size _))) ?_
          rintro e w4 ⟨⟨V2, rfl, v2⟩, b4⟩
          obtain ⟨B, m, q, rfl⟩ := v2.slice
          have hB4 : Below W2.heap.size W2 w4 := (hB3.alloc hB3.size _).trans (b4.mono (hB3.alloc hB3.size _).size)
          refine ⟨_, rfl, hB4, ?_⟩
          (try simp only [List.getElem_toArray, List.getElem_cons_zero, List.getElem_cons_succ, Act.put, List.setIfInBounds_toArray, List.set_cons_zero, List.set_cons_succ])
          have hX : Below W2.heap.size W2 (w4) := hB4
          have PF := PB.start (c := ⟨k, id, V1, tags, kk, ef, dr, dim⟩) HBW.out hX (Blk.below (Blk.alloc kT _) b4 (Blk.lt (Blk.alloc kT _))) ((v1.below (bel_new _ _)).below b4) (v2) ((Blk.new w3 39 docZ).below b4 (Blk.new w3 39 docZ).lt) (by have := Blk.lt kT; omega) (by have := HBW.out.size; exact Nat.le_trans this hT) (Nat.le_trans HBW.out.size hB3.size)
          have SR := doc_store ((Blk.new w3 39 docZ).below b4 (Blk.new w3 39 docZ).lt) rfl ⟨k, id, .slice B m q, tags, kk, ef, dr, dim⟩ as0 (.slice none 0 0) rfl rfl
          have SB : Below W2.heap.size W2 ((w4).setCells (w3.heap.size) 0 (docA ⟨k, id, .slice B m q, tags, kk, ef, dr, dim⟩ as0 (.slice none 0 0)).toList) := below_put hX (Nat.le_refl _) (by have := hlt.out; exact hB3.size) _ _
          refine wpAnyH_take (i := 7) (v := .pointer (some ⟨T, 0, none⟩)) rfl (by kernel_rfl) (by kernel_rfl) (by kernel_rfl) (fun _ _ _ h => h) (.inl ⟨by rfl, fun _ _ => by rfl⟩) hX ?_
          (try simp only [List.getElem_toArray, List.getElem_cons_zero, List.getElem_cons_succ, Act.put, List.setIfInBounds_toArray, List.set_cons_zero, List.set_cons_succ])
          refine wpAnyH_store 8 39 (.tmp 8) (.tmp 26) (by kernel_rfl) (by rfl) (by kernel_rfl) (by rfl) (by rfl) (by rfl) SR SB ?_
          (try simp only [List.getElem_toArray, List.getElem_cons_zero, List.getElem_cons_succ, Act.put])
          refine wpAnyH_done (by kernel_rfl) ?_ _
          go_wp2_with fail
          go_meet
          exact Lib.hid ⟨T, _, _, _, rfl, rfl, PF⟩
      · refine wpOp_value (.pointer (some ⟨(W2.drew).heap.size, 0, none⟩)) (w' := (W2.drew).alloc (.cells docZ 39)) rfl (by rfl) (by rfl) ?_
        refine ⟨(hB0).alloc (hB0).size _, ?_⟩
        (try simp only [List.getElem_toArray, List.getElem_cons_zero, List.getElem_cons_succ, Act.put, List.setIfInBounds_toArray, List.set_cons_zero, List.set_cons_succ])
        refine wpAnyH_all (rs := [2]) (by kernel_rfl) (by simp) (fun i hi => ?_)
        obtain rfl : i = 2 := by simpa using hi
        refine wpOp_call 12 #[.agg (callL k id (.slice VA vn vc) tags kk ef dr), .int .i64 dim] _ rfl (by rfl) (by kernel_rfl) (gt_new k id tags kk ef dr dim (.slice VA vn vc) cv (W2.drew.alloc (.cells docZ 39)) (HW.out.below (hB0.alloc hB0.size _))) ?_
        rintro e w3 ⟨⟨T, V1, rfl, hT, kT, v1, _⟩, b3⟩
        have hB3 : Below W2.heap.size W2 w3 := (hB0.alloc hB0.size _).trans (b3.mono (hB0.alloc hB0.size _).size)
        refine ⟨_, rfl, hB3, ?_⟩
        (try simp only [List.getElem_toArray, List.getElem_cons_zero, List.getElem_cons_succ, Act.put, List.setIfInBounds_toArray, List.set_cons_zero, List.set_cons_succ])
        refine wpAnyH_all (rs := [5]) (by kernel_rfl) (by simp) (fun i hi => ?_)
        obtain rfl : i = 5 := by simpa using hi
        refine wpOp_call 13 #[.agg (callL k id (.slice VA vn vc) tags kk ef dr), .int .i64 dim] _ rfl (by rfl) (by kernel_rfl) (rf_new k id tags kk ef dr dim (.slice VA vn vc) cv (w3) (HW.out.below (hB3))) ?_
        rintro e w4 ⟨⟨V2, rfl, v2⟩, b4⟩
        obtain ⟨B, m, q, rfl⟩ := v2.slice
        have hB4 : Below W2.heap.size W2 w4 := (hB3).trans (b4.mono (hB3).size)
        refine ⟨_, rfl, hB4, ?_⟩
        (try simp only [List.getElem_toArray, List.getElem_cons_zero, List.getElem_cons_succ, Act.put, List.setIfInBounds_toArray, List.set_cons_zero, List.set_cons_succ])
        have hX : Below W2.heap.size W2 (w4) := hB4
        have PF := PB.start (c := ⟨k, id, V1, tags, kk, ef, dr, dim⟩) HBW.out hX (Blk.below kT b4 (Blk.lt kT)) (v1.below b4) (v2) (((Blk.new W2.drew 39 docZ).below b3 (Blk.new W2.drew 39 docZ).lt).below b4 ((Blk.new W2.drew 39 docZ).below b3 (Blk.new W2.drew 39 docZ).lt).lt) (by have : (W2.drew.alloc (.cells docZ 39)).heap.size = W2.drew.heap.size + 1 := (by simp only [World.alloc, Array.size_push]); omega) (by have := HBW.out.size; have h2 : (W2.drew.alloc (.cells docZ 39)).heap.size = W2.heap.size + 1 := (by simp only [World.alloc, Array.size_push]; rfl); omega) (HBW.out.size)
        have SR := doc_store (((Blk.new W2.drew 39 docZ).below b3 (Blk.new W2.drew 39 docZ).lt).below b4 ((Blk.new W2.drew 39 docZ).below b3 (Blk.new W2.drew 39 docZ).lt).lt) rfl ⟨k, id, .slice B m q, tags, kk, ef, dr, dim⟩ as0 (.slice none 0 0) rfl rfl
        have SB : Below W2.heap.size W2 ((w4).setCells (W2.drew.heap.size) 0 (docA ⟨k, id, .slice B m q, tags, kk, ef, dr, dim⟩ as0 (.slice none 0 0)).toList) := below_put hX (Nat.le_refl _) (by have := hlt.out; exact Nat.le_refl _) _ _
        refine wpAnyH_take (i := 7) (v := .pointer (some ⟨T, 0, none⟩)) rfl (by kernel_rfl) (by kernel_rfl) (by kernel_rfl) (fun _ _ _ h => h) (.inl ⟨by rfl, fun _ _ => by rfl⟩) hX ?_
        (try simp only [List.getElem_toArray, List.getElem_cons_zero, List.getElem_cons_succ, Act.put, List.setIfInBounds_toArray, List.set_cons_zero, List.set_cons_succ])
        refine wpAnyH_store 8 39 (.tmp 8) (.tmp 26) (by kernel_rfl) (by rfl) (by kernel_rfl) (by rfl) (by rfl) (by rfl) SR SB ?_
        (try simp only [List.getElem_toArray, List.getElem_cons_zero, List.getElem_cons_succ, Act.put])
        refine wpAnyH_done (by kernel_rfl) ?_ _
        go_wp2_with fail
        go_meet
        exact Lib.hid ⟨T, _, _, _, rfl, rfl, PF⟩
    case rest =>
      obtain ⟨T, D, V1, V2, rfl, rfl, PF⟩ := hcut.out
      have HP := Lib.hid PF
      have HGx := Lib.hid ((HG.out.below PF.b).more PF.b.size)
      clear PF HR hlt HW HBW HBD
      obtain ⟨i, hi, hz, hz1, hz2⟩ := info_parts info_got
      have bN : Below wc.heap.size wc (wc.alloc (.cells gd0.cells 42)) := bel_new _ _
      have hown : Hid ((wc.alloc (.cells gd0.cells 42)).ownsRow wc.heap.size 42 7 (.slice (some ⟨wc.heap.size, 0, none⟩) 1 1) 1 gd0.cells.toList) :=
        ⟨rfl, Or.inr ⟨wc.heap.size, 1, gd0.cells, rfl, Nat.le_refl _, heap_alloc_new wc _, Nat.le_refl _, by unfold maxLen; omega, rfl, rfl⟩⟩
      have hBN := Lib.hid bN
      have hTD : Hid (T < wc.heap.size ∧ D < wc.heap.size) := ⟨HP.out.t.lt, by obtain ⟨TV, d1, _⟩ := HP.out.d; exact d1.lt⟩
      have hlen := Lib.hid HGx.out.len
      clear bN
      unfold GD.cells gotL GD.L GD.V gd0 at hown hBN
      go_upto_region 6 with fail
      go_cut [32, 33, 34] from 29 to 34 (fun s32 s33 s34 wx => s34 = .int .i64 0 ∧ Hid (s33 = .int .i64 ((1 + n : Nat) : Int) ∧ ∃ g cap, s32 = .slice (some ⟨g, 0, none⟩) (1 + n) cap ∧ wc.heap.size ≤ g ∧ Gots wx wx.heap.size (some ⟨g, 0, none⟩) (1 + n) (gd0 :: gs) ∧ Below wc.heap.size wc wx))
      case first =>
        cases A with
        | none =>
          obtain ⟨rfl, rfl⟩ := HA.out rfl
          have hg0 : gs = [] := List.eq_nil_of_length_eq_zero hlen.out
          subst hg0
          go_wp2_with (at_builtin; refine wpList_append_own_none rfl (.tmp 30) (.tmp 31) 28 rfl wc.heap.size 42 i 7 Try.underlying28 hi _ 1 _ rfl hown.out rfl ?_)
          go_meet
          exact ⟨rfl, Lib.hid ⟨rfl, by
            obtain ⟨g, cap, e, hg, hr⟩ := gots_own (gs := []) (n := 0) hown.out rfl (B := 0) (by simp) (Nat.zero_le _)
            exact ⟨g, cap, e, hg, hr, hBN.out⟩⟩⟩
        | some a =>
          have hfl : Hid ((∀ j u, (gflat gs)[j]? = some u → (wc.alloc (.cells gd0.cells 42)).cell? (Addr.add a j) = some u) ∧ (∀ u ∈ gflat gs, u.oneCell' = true) ∧ (gflat gs).length = n * 7) := by
            have hl : (gflat gs).length = n * 7 := by rw [gflat_len, hlen.out]
            refine ⟨?_, gflat_one gs, hl⟩
            by_cases h0 : n = 0
            · subst h0
              have : gflat gs = [] := List.eq_nil_of_length_eq_zero hl
              rw [this]; simp
            · obtain ⟨b, o, e, hb, hc⟩ := (HGx.out.1.below hBN.out).flat (by decide) (by omega)
              injection e with e
              subst e
              exact hc
          have h63 : Hid (1 + n ≤ maxLen) := by have h1 := hN1.out; have h2 := hlen.out; show _ ≤ _; unfold maxLen; omega
          have hby : Hid ((1 + n) * 88 ≤ 140737488355328) := by have h1 := hN1.out; have h2 := hlen.out; show _ ≤ _; omega
          have hNi : IntKind.i64.wrap ((1 : Int) + n) = 1 + n := by have h1 := hN1.out; have h2 := hlen.out; simp only [IntKind.wrap, IntKind.bits, IntKind.signed]; simp; omega
          have HNi := Lib.hid hNi
          clear hNi
          unfold GD.cells gotL GD.L GD.V gd0 at hfl
          go_wp2_with (at_builtin; go_loud (refine wpList_append_own _ rfl (.tmp 30) (.tmp 31) 28 rfl wc.heap.size 42 i (.agg #[.bool false, .int .i64 0, .int .i64 0, .slice none 0 0, .int .u64 0, .slice none 0 0, .int .u64 0]) 7 88 Try.underlying28 hi hz hz1 hz2 rfl (by decide) (.slice (some ⟨wc.heap.size, 0, none⟩) 1 1) 1 _ (by simp [Act.eval]) hown.out a n c (gflat gs) (by simp [Act.eval]) hfl.out.2.2 hfl.out.1 hfl.out.2.1 h63.out hby.out hBN.out.size ?_; intro v' w1 ho hg _; have hbb : Hid (Below wc.heap.size wc w1) := hBN.out.grown hg hBN.out.size (fun k hk => (by injection hk with hk; exact Nat.le_of_eq hk)); obtain ⟨gg, cap, rfl, hgg, hGG⟩ := gots_own (gs := gs) ho hlen.out (fun x hx => (HGx.out.2 x hx).below hbb.out) hbb.out.size; replace ho := Lib.hid hGG; replace hg := Lib.hid hgg; clear hGG hgg))
          go_meet
          exact ⟨rfl, Lib.hid ⟨rfl, _, _, rfl, hg.out, ho.out, hbb.out⟩⟩
      case rest =>
        obtain ⟨rfl, hR⟩ := hcut
        obtain ⟨rfl, g, cap, rfl, hg, hG, hb⟩ := hR.out
        have HP2 := Lib.hid (HP.out.below hb)
        have HG2 := Lib.hid hG
        have hgT : Hid (g ≠ T ∧ g ≠ D) := by have := hTD.out; exact ⟨by omega, by omega⟩
        clear hR hg hG hb hown hBN HP HGx hTD hz hz1 hz2 hi
        go_wp2_with fail
        have hnb : n ≤ 400 := by have h1 := hN1.out; have h2 := hlen.out; omega
        go_loopw [34] (fun s34 wr => ∃ j : Nat, j ≤ 1 + n ∧ s34 = .int .i64 j ∧ Hid (∃ x, x.Ok ∧ PB w wr T D ⟨k, id, V1, tags, kk, ef, dr, dim⟩ V2 cv x x ∧ Gots wr wr.heap.size (some ⟨g, 0, none⟩) (1 + n) (gd0 :: gs))) (fun s34 _ => 1 + n - (intOf s34).toNat)
        case atStart => exact ⟨0, Nat.zero_le _, rfl, Lib.hid ⟨_, as0_ok, HP2.out, HG2.out⟩⟩
        case round =>
          obtain ⟨j, hj, rfl, hI⟩ := hrel
          by_cases hlt : j < 1 + n
          · obtain ⟨x, hx, hp, hG⟩ := hI.out
            obtain ⟨b', o', gj, e, hbb, hgj, hr, hv⟩ := hG.at_ hlt
            injection e with e
            injection e with e1 e2
            subst e1 e2
            rw [Nat.zero_add] at hr
            have hvn : ∀ q ∈ gd0 :: gs, q.vn ≤ 50 := by
              intro q hq
              rcases List.mem_cons.1 hq with rfl | hq
              · exact Nat.zero_le _
              · exact (hN3.out q hq).2
            have LG : (Instr.loadAt 42 (.pointer (some ⟨g, j * 7, none⟩))).run Try.prog wr = .ok (.agg gj.cells) wr := range_load hr Try.underlying42 rfl gotT
            have SG := got_put wr gj
            have b1 := got_bel wr gj
            have G1 := got_at wr gj
            obtain ⟨X1, hX1⟩ : ∃ y, (wr.alloc (.cells gd0.cells 42)).setCells wr.heap.size 0 gj.cells.toList = y := ⟨_, rfl⟩
            rw [hX1] at SG b1 G1
            have P1 := hp.below b1
            have hmem := List.mem_of_getElem? hgj
            have vv1 : VV X1 gj.V gj.vec := (hv.below b1).vv (hvn gj hmem) b1.size
            have HG1 := Lib.hid ((hG.below b1).more b1.size)
            have HP1 := Lib.hid P1
            have HV1 := Lib.hid vv1
            have HB1 := Lib.hid G1
            have HVN := Lib.hid hvn
            have HX := Lib.hid hx
            have HD : Hid (D < wr.heap.size ∧ T < wr.heap.size) := ⟨by obtain ⟨TV, d1, _⟩ := hp.d; exact d1.lt, hp.t.lt⟩
            rw [show gd0.cells = #[.bool false, .int .i64 0, .int .i64 0, .slice none 0 0, .int .u64 0, .slice none 0 0, .int .u64 0] from rfl] at SG
            clear hX1 P1 vv1 b1 G1 hp hG hr hv hbb hgj hmem hvn hI hx
            go_upto_region 9 with (first | refine wpList_loadE LG _ rfl rfl rfl ?_ | refine wpList_storeE SG _ _ rfl rfl rfl rfl ?_)
            clear LG SG
            obtain ⟨TV, d1, d2⟩ := HP1.out.d
            have LD := doc_load d1
            have LG1 := gd_load HB1.out
            have HRF := Lib.hid (rf_next ⟨k, id, V2, tags, kk, ef, dr, dim⟩ cv x TV gj.ok gj.n gj.m gj.L gj.id gj.V gj.vec gj.tags X1 HX.out HP1.out.v2 d2 HV1.out)
            have hyok := step_ok ⟨k, id, V2, tags, kk, ef, dr, dim⟩ cv x HX.out gj.ok gj.n gj.id gj.vec gj.tags
            have HGN := Lib.hid (gt_next T ⟨k, id, V1, tags, kk, ef, dr, dim⟩ cv x gj.ok gj.n gj.m gj.L gj.id gj.V gj.vec gj.tags)
            rw [show x.step ⟨k, id, V1, tags, kk, ef, dr, dim⟩ cv gj.ok gj.n gj.id gj.vec gj.tags = x.step ⟨k, id, V2, tags, kk, ef, dr, dim⟩ cv gj.ok gj.n gj.id gj.vec gj.tags from rfl] at HGN
            obtain ⟨y, hy⟩ : ∃ y, x.step ⟨k, id, V2, tags, kk, ef, dr, dim⟩ cv gj.ok gj.n gj.id gj.vec gj.tags = y := ⟨_, rfl⟩
            rw [hy] at HRF hyok HGN
            have HY := Lib.hid hyok
            clear hy hyok d1 d2
            go_wp2_with (first | refine wpList_loadE LD _ rfl rfl rfl ?_ | refine wpList_loadE LG1 _ rfl rfl rfl ?_)
            refine HRF.out.mono ?_
            rintro e X2 ⟨TV', rfl, w2, b2⟩
            obtain ⟨A2, n2, c2, eTV⟩ := w2.slice
            obtain ⟨AV, nV, cV, eV⟩ := HP1.out.v2.slice
            obtain ⟨Y2, Y3, S39, S44, DE, OE, bY⟩ := doc_op X2 ⟨k, id, V2, tags, kk, ef, dr, dim⟩ y TV' (by show V2.oneCell' = true; rw [eV]; rfl) (by rw [eTV]; rfl)
            unfold docZ opZ at S39
            have LE := doc_load DE
            have P3 := (HP1.out.below b2).below bY
            have w3 : VV Y3 TV' y.vec := w2.below bY
            have SD : ∃ Y4, (Instr.storeAt 39 (.pointer (some ⟨D, 0, none⟩)) (.agg (docA ⟨k, id, V2, tags, kk, ef, dr, dim⟩ y TV'))).run Try.prog Y3 = .ok () Y4 ∧ PB w Y4 T D ⟨k, id, V1, tags, kk, ef, dr, dim⟩ V2 cv x y ∧ Tch (fun k => k = D) Y3 Y4 := by
              obtain ⟨TVq, q1, _⟩ := P3.d
              exact ⟨_, doc_store q1 rfl ⟨k, id, V2, tags, kk, ef, dr, dim⟩ y TV' (by show V2.oneCell' = true; rw [eV]; rfl) (by rw [eTV]; rfl), P3.doc w3, Tch.setCells (S := fun k => k = D) (g := D) rfl _ _ _ (Tch.refl _ _)⟩
            obtain ⟨Y4, SD, P4, t4⟩ := SD
            have hnD := P3.notD
            have hsz : wr.heap.size < X2.heap.size := Nat.lt_of_lt_of_le HB1.out.lt b2.size
            have b13 : Below X1.heap.size X1 Y3 := b2.trans (bY.mono b2.size)
            have G3 := HB1.out.below b13 HB1.out.lt
            have G4 := G3.tch t4 (by have := HD.out; omega)
            have LG4 := gd_load G4
            have v3 := HV1.out.below b13
            have v4 := v3.tch t4 (hnD _ _ v3) (fun _ _ q => q)
            have O4 := OE.tch t4 (by have := HD.out; omega)
            have GT3 := (HG1.out.below b13).more b13.size
            have GT4 := GT3.tch t4 hgT.out.2 (fun q hq => hnD _ _ ((GT3.2 q hq).vv (HVN.out q hq) (Nat.le_refl _)))
            have HP4 := Lib.hid P4
            have HO4 := Lib.hid O4
            have HGT4 := Lib.hid GT4
            have HN4 := Lib.hid (HGN.out Y4 HX.out P4.t P4.v1 v4 (P4.notT _ _ v4))
            have hO : Hid (X2.heap.size + 1 ≠ T) := by have := HD.out; show _ ≠ _; omega
            clear P4 O4 GT4 GT3 v4 v3 G4 G3 b13 hsz hnD t4 P3 w3 DE OE bY w2 b2 HRF HGN HP1 HB1 HV1 HG1 LD LG1 eTV eV
            go_upto_region 10 with (first | refine wpList_storeE S39 _ _ rfl rfl rfl rfl ?_ | refine wpList_storeE S44 _ _ rfl rfl rfl rfl ?_)
            clear S39 S44
            go_upto_region 11 with (first | refine wpList_loadE LE _ rfl rfl rfl ?_ | refine wpList_storeE SD _ _ rfl rfl rfl rfl ?_)
            clear LE SD
            go_wp2_with (first | refine wpList_loadE LG4 _ rfl rfl rfl ?_)
            refine HN4.out.mono ?_
            rintro e X5 ⟨rfl, ha, ht⟩
            have S6 := op_put X5 y
            have P6 := (HP4.out.task ha ht).below (op_bel X5 y)
            have O6 := (HO4.out.tch ht hO.out).below (op_bel X5 y) (HO4.out.tch ht hO.out).lt
            have Q6 := op_at X5 y
            have GT6 := ((HGT4.out.tch ht hgT.out.1 (fun q hq => HP4.out.notT _ _ ((HGT4.out.2 q hq).vv (HVN.out q hq) (Nat.le_refl _)))).below (op_bel X5 y)).more (op_bel X5 y).size
            obtain ⟨X6, hX6⟩ : ∃ x, (X5.alloc (.cells opZ 44)).setCells X5.heap.size 0 (opX y).toList = x := ⟨_, rfl⟩
            rw [hX6] at S6 P6 O6 Q6 GT6
            unfold opZ at S6
            have HP6 := Lib.hid P6
            have HO6 := Lib.hid O6
            have HQ6 := Lib.hid Q6
            have HGT6 := Lib.hid GT6
            clear hX6 P6 O6 Q6 GT6 ha ht HP4 HO4 HGT4 HN4 LG4
            go_upto_region 12 with (first | refine wpList_storeE S6 _ _ rfl rfl rfl rfl ?_)
            clear S6
            obtain ⟨TQ, kT, vT, nT⟩ := HP6.out.t
            obtain ⟨TD, dD, vD⟩ := HP6.out.d
            obtain ⟨AT, nTT, cT, eT⟩ := vT.slice
            obtain ⟨AD, nD, cD, eD⟩ := vD.slice
            obtain ⟨A1, n1, c1, eV1⟩ := HP6.out.v1.slice
            obtain ⟨bb, hbb⟩ : ∃ b, isB y = b := ⟨_, rfl⟩
            rw [hbb]
            have HKT := Lib.hid kT
            have HVT := Lib.hid vT
            have HDD := Lib.hid dD
            have HVD := Lib.hid vD
            have ET : Hid (TQ.oneCell' = true) := by show _ = _; rw [eT]; rfl
            have EV1 : Hid (V1.oneCell' = true) := by show _ = _; have := eV1; rw [show V1 = _ from this]; rfl
            clear kT vT dD vD eT eD eV1 hbb nT
            refine wp_region_held_drew (S := fun w' => Below X6.heap.size X6 w') (by kernel_rfl) (below_drewN (Below.refl _ X6) 1) (fun hH => ?_)
            refine wpAnyH_take (i := 0) (v := .agg (opX y)) rfl (by kernel_rfl) (by kernel_rfl) (by kernel_rfl) (fun _ _ _ h => h) (yieldsIf_loadE (by rfl) _ rfl rfl (fun _ q => opx_load (HQ6.out.below q HQ6.out.lt))) hH ?_
            (try simp only [List.getElem_toArray, List.getElem_cons_zero, Act.put, List.setIfInBounds_toArray, List.set_cons_zero, List.set_cons_succ])
            refine wpAnyH_take (i := 1) (v := .agg (opX y)) rfl (by kernel_rfl) (by kernel_rfl) (by kernel_rfl) (fun _ _ _ h => h) (yieldsIf_loadE (by rfl) _ rfl rfl (fun _ q => opx_load (HO6.out.below q HO6.out.lt))) hH ?_
            (try simp only [List.getElem_toArray, List.getElem_cons_zero, List.getElem_cons_succ, Act.put, List.setIfInBounds_toArray, List.set_cons_zero, List.set_cons_succ])
            refine wpAnyH_call 2 16 #[.agg (opX y), .agg (opX y)] _ (by kernel_rfl) (by rfl) (by kernel_rfl) (by kernel_rfl) (same_op _ y.k y.a y.n y.id) ?_
            rintro e Z1 ⟨rfl, bz⟩
            have hH1 : Below X6.heap.size X6 Z1 := hH.trans (bz.mono hH.size)
            clear bz
            refine ⟨_, rfl, hH1, ?_⟩
            clear hH
            have hH := hH1
            clear hH1
            (try simp only [List.getElem_toArray, List.getElem_cons_zero, List.getElem_cons_succ, Act.put, List.setIfInBounds_toArray, List.set_cons_zero, List.set_cons_succ])
            refine wpAnyH_take (i := 3) (v := .bool false) rfl (by kernel_rfl) (by kernel_rfl) (by kernel_rfl) (fun _ _ _ h => h) (.inl ⟨by rfl, fun _ _ => by kernel_rfl⟩) hH ?_
            (try simp only [List.getElem_toArray, List.getElem_cons_zero, List.getElem_cons_succ, Act.put, List.setIfInBounds_toArray, List.set_cons_zero, List.set_cons_succ])
            refine wpAnyH_take (i := 4) (v := .bool false) rfl (by kernel_rfl) (by kernel_rfl) (by kernel_rfl) (fun _ _ _ h => h) (.inl ⟨by rfl, fun _ _ => by kernel_rfl⟩) hH ?_
            (try simp only [List.getElem_toArray, List.getElem_cons_zero, List.getElem_cons_succ, Act.put, List.setIfInBounds_toArray, List.set_cons_zero, List.set_cons_succ])
            refine wpAnyH_take (i := 5) (v := .bool bb) rfl (by kernel_rfl) (by kernel_rfl) (by kernel_rfl) (fun _ _ _ h => h) (.inl ⟨by rfl, fun _ _ => by kernel_rfl⟩) hH ?_
            (try simp only [List.getElem_toArray, List.getElem_cons_zero, List.getElem_cons_succ, Act.put, List.setIfInBounds_toArray, List.set_cons_zero, List.set_cons_succ])
            refine wpAnyH_take (i := 6) (v := .bool bb) rfl (by kernel_rfl) (by kernel_rfl) (by kernel_rfl) (fun _ _ _ h => h) (.inl ⟨by rfl, fun _ _ => by kernel_rfl⟩) hH ?_
            (try simp only [List.getElem_toArray, List.getElem_cons_zero, List.getElem_cons_succ, Act.put, List.setIfInBounds_toArray, List.set_cons_zero, List.set_cons_succ])
            refine wpAnyH_take (i := 7) (v := .bool false) rfl (by kernel_rfl) (by kernel_rfl) (by kernel_rfl) (fun _ _ _ h => h) (yieldsIf_neqB (by rfl) _ _ rfl rfl rfl) hH ?_
            (try simp only [List.getElem_toArray, List.getElem_cons_zero, List.getElem_cons_succ, Act.put, List.setIfInBounds_toArray, List.set_cons_zero, List.set_cons_succ])
            refine wpAnyH_take (i := 8) (v := .bool false) rfl (by kernel_rfl) (by kernel_rfl) (by kernel_rfl) (fun _ _ _ h => h) (.inl ⟨by rfl, fun _ _ => by kernel_rfl⟩) hH ?_
            (try simp only [List.getElem_toArray, List.getElem_cons_zero, List.getElem_cons_succ, Act.put, List.setIfInBounds_toArray, List.set_cons_zero, List.set_cons_succ])
            refine wpAnyH_take (i := 9) (v := .bool false) rfl (by kernel_rfl) (by kernel_rfl) (by kernel_rfl) (fun _ _ _ h => h) (.inl ⟨by rfl, fun _ _ => by kernel_rfl⟩) hH ?_
            (try simp only [List.getElem_toArray, List.getElem_cons_zero, List.getElem_cons_succ, Act.put, List.setIfInBounds_toArray, List.set_cons_zero, List.set_cons_succ])
            refine wpAnyH_take (i := 10) (v := .pointer (some ⟨T, 0, none⟩)) rfl (by kernel_rfl) (by kernel_rfl) (by kernel_rfl) (fun _ _ _ h => h) (.inl ⟨by rfl, fun _ _ => by kernel_rfl⟩) hH ?_
            (try simp only [List.getElem_toArray, List.getElem_cons_zero, List.getElem_cons_succ, Act.put, List.setIfInBounds_toArray, List.set_cons_zero, List.set_cons_succ])
            refine wpAnyH_take (i := 12) (v := .pointer (some ⟨D, 9, none⟩)) rfl (by kernel_rfl) (by kernel_rfl) (by kernel_rfl) (fun _ _ _ h => h) (.inl ⟨by rfl, fun _ _ => by kernel_rfl⟩) hH ?_
            (try simp only [List.getElem_toArray, List.getElem_cons_zero, List.getElem_cons_succ, Act.put, List.setIfInBounds_toArray, List.set_cons_zero, List.set_cons_succ])
            refine wpAnyH_take (i := 13) (v := .int .i64 y.marks) rfl (by kernel_rfl) (by kernel_rfl) (by kernel_rfl) (fun _ _ _ h => h) (yieldsIf_loadE (by rfl) _ rfl rfl (fun _ q => load_int ((HDD.out.below q HDD.out.lt).cell 9))) hH ?_
            (try simp only [List.getElem_toArray, List.getElem_cons_zero, List.getElem_cons_succ, Act.put, List.setIfInBounds_toArray, List.set_cons_zero, List.set_cons_succ])
            refine wpAnyH_call 11 17 #[.pointer (some ⟨T, 0, none⟩)] _ (by kernel_rfl) (by rfl) (by kernel_rfl) (by kernel_rfl) (gt_marks T ⟨k, id, V1, tags, kk, ef, dr, dim⟩ (tsOf y TQ) _ (Blk.below HKT.out hH (Blk.lt HKT.out))) ?_
            rintro e Z2 ⟨rfl, rfl⟩
            refine ⟨_, rfl, hH, ?_⟩
            (try simp only [List.getElem_toArray, List.getElem_cons_zero, List.getElem_cons_succ, Act.put, List.setIfInBounds_toArray, List.set_cons_zero, List.set_cons_succ])
            refine wpAnyH_take (i := 14) (v := .bool false) rfl (by kernel_rfl) (by kernel_rfl) (by kernel_rfl) (fun _ _ _ h => h) (yieldsIf_neqI (by rfl) _ _ rfl rfl rfl) hH ?_
            (try simp only [List.getElem_toArray, List.getElem_cons_zero, List.getElem_cons_succ, Act.put, List.setIfInBounds_toArray, List.set_cons_zero, List.set_cons_succ])
            refine wpAnyH_take (i := 15) (v := .bool false) rfl (by kernel_rfl) (by kernel_rfl) (by kernel_rfl) (fun _ _ _ h => h) (.inl ⟨by rfl, fun _ _ => by kernel_rfl⟩) hH ?_
            (try simp only [List.getElem_toArray, List.getElem_cons_zero, List.getElem_cons_succ, Act.put, List.setIfInBounds_toArray, List.set_cons_zero, List.set_cons_succ])
            refine wpAnyH_take (i := 16) (v := .bool false) rfl (by kernel_rfl) (by kernel_rfl) (by kernel_rfl) (fun _ _ _ h => h) (.inl ⟨by rfl, fun _ _ => by kernel_rfl⟩) hH ?_
            (try simp only [List.getElem_toArray, List.getElem_cons_zero, List.getElem_cons_succ, Act.put, List.setIfInBounds_toArray, List.set_cons_zero, List.set_cons_succ])
            refine wpAnyH_take (i := 17) (v := .pointer (some ⟨T, 0, none⟩)) rfl (by kernel_rfl) (by kernel_rfl) (by kernel_rfl) (fun _ _ _ h => h) (.inl ⟨by rfl, fun _ _ => by kernel_rfl⟩) hH ?_
            (try simp only [List.getElem_toArray, List.getElem_cons_zero, List.getElem_cons_succ, Act.put, List.setIfInBounds_toArray, List.set_cons_zero, List.set_cons_succ])
            refine wpAnyH_take (i := 19) (v := .pointer (some ⟨D, 10, none⟩)) rfl (by kernel_rfl) (by kernel_rfl) (by kernel_rfl) (fun _ _ _ h => h) (.inl ⟨by rfl, fun _ _ => by kernel_rfl⟩) hH ?_
            (try simp only [List.getElem_toArray, List.getElem_cons_zero, List.getElem_cons_succ, Act.put, List.setIfInBounds_toArray, List.set_cons_zero, List.set_cons_succ])
            refine wpAnyH_take (i := 20) (v := .agg (toldA ⟨k, id, V2, tags, kk, ef, dr, dim⟩ (tsOf y TD))) rfl (by kernel_rfl) (by kernel_rfl) (by kernel_rfl) (fun _ _ _ h => h) (yieldsIf_loadE (by rfl) _ rfl rfl (fun _ q => doc_told (HDD.out.below q HDD.out.lt))) hH ?_
            (try simp only [List.getElem_toArray, List.getElem_cons_zero, List.getElem_cons_succ, Act.put, List.setIfInBounds_toArray, List.set_cons_zero, List.set_cons_succ])
            refine wpAnyH_call 18 19 #[.pointer (some ⟨T, 0, none⟩)] _ (by kernel_rfl) (by rfl) (by kernel_rfl) (by kernel_rfl) (gt_told T ⟨k, id, V1, tags, kk, ef, dr, dim⟩ (tsOf y TQ) _ (Blk.below HKT.out hH (Blk.lt HKT.out)) EV1.out ET.out) ?_
            rintro e Z3 ⟨rfl, bz⟩
            have hH3 : Below X6.heap.size X6 Z3 := hH.trans (bz.mono hH.size)
            clear bz
            refine ⟨_, rfl, hH3, ?_⟩
            clear hH
            have hH := hH3
            clear hH3
            (try simp only [List.getElem_toArray, List.getElem_cons_zero, List.getElem_cons_succ, Act.put, List.setIfInBounds_toArray, List.set_cons_zero, List.set_cons_succ])
            refine wpAnyH_call 21 18 #[.agg (toldA ⟨k, id, V1, tags, kk, ef, dr, dim⟩ (tsOf y TQ)), .agg (toldA ⟨k, id, V2, tags, kk, ef, dr, dim⟩ (tsOf y TD))] _ (by kernel_rfl) (by rfl) (by kernel_rfl) (by kernel_rfl) (same_told ⟨k, id, V1, tags, kk, ef, dr, dim⟩ (tsOf y TQ) V2 TD (HP6.out.v1.below hH) (HP6.out.v2.below hH) (HVT.out.below hH) (HVD.out.below hH)) ?_
            rintro e Z4 ⟨rfl, bz⟩
            have hH4 : Below X6.heap.size X6 Z4 := hH.trans (bz.mono hH.size)
            clear bz
            refine ⟨_, rfl, hH4, ?_⟩
            clear hH
            have hH := hH4
            clear hH4
            (try simp only [List.getElem_toArray, List.getElem_cons_zero, List.getElem_cons_succ, Act.put, List.setIfInBounds_toArray, List.set_cons_zero, List.set_cons_succ])
            refine wpAnyH_take (i := 22) (v := .bool false) rfl (by kernel_rfl) (by kernel_rfl) (by kernel_rfl) (fun _ _ _ h => h) (.inl ⟨by rfl, fun _ _ => by kernel_rfl⟩) hH ?_
            (try simp only [List.getElem_toArray, List.getElem_cons_zero, List.getElem_cons_succ, Act.put, List.setIfInBounds_toArray, List.set_cons_zero, List.set_cons_succ])
            refine wpAnyH_take (i := 23) (v := .bool false) rfl (by kernel_rfl) (by kernel_rfl) (by kernel_rfl) (fun _ _ _ h => h) (.inl ⟨by rfl, fun _ _ => by kernel_rfl⟩) hH ?_
            (try simp only [List.getElem_toArray, List.getElem_cons_zero, List.getElem_cons_succ, Act.put, List.setIfInBounds_toArray, List.set_cons_zero, List.set_cons_succ])
            refine wpAnyH_done (by kernel_rfl) ?_ _
            have HF : Hid (∃ x, x.Ok ∧ PB w Z4 T D ⟨k, id, V1, tags, kk, ef, dr, dim⟩ V2 cv x x ∧ Gots Z4 Z4.heap.size (some ⟨g, 0, none⟩) (1 + n) (gd0 :: gs)) := ⟨y, HY.out, HP6.out.below hH, (HGT6.out.below hH).more hH.size⟩
            clear hH HP6 HGT6 HO6 HQ6 HKT HVT HDD HVD ET EV1 HY HX HVN HD hO
            go_wp2_with fail
            go_roundw
            case rel =>
              (repeat apply Exists.intro)
              exact ⟨⟨j + 1, by omega, by go_num, HF⟩, rfl⟩
            case measure => simp [intOf]; omega
          · obtain ⟨x, _, hp, _⟩ := hI.out
            have HL := Lib.hid (lives28 wr)
            have hb := Lib.hid hp.b
            clear hp
            go_wp2_with fail
            refine HL.out.mono ?_
            rintro e W9 ⟨rfl, b9⟩
            have hb' := Lib.hid (hb.out.trans (b9.mono hb.out.size))
            clear b9
            go_wp2_with fail
            go_ret
            exact ⟨rfl, hb'.out⟩
end Go.Proofs.Ytkhnnjeinpojkaa
