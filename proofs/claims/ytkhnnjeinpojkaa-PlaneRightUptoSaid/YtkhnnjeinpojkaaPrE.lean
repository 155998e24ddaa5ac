/- Right planes: PlaneRight, walked. Printed by genPrE.py. -/
import Derived.Test.YtkhnnjeinpojkaaPrM
import Derived.Test.YtkhnnjeinpojkaaOpDm
import Derived.Test.YtkhnnjeinpojkaaPmU
import Derived.Deep.CutBlock
namespace Go.Proofs.Ytkhnnjeinpojkaa
open Go.RowKit Go.Maps Go.ChangeMaps Go.MapKept
theorem deedT : (Try.prog.info? 67).map (·.size) = some 7 := by kernel_rfl
theorem deed_load {w : World} {b o : Nat} {d : DD} (h : w.rangeAt b o d.cells.toList) : (Instr.loadAt 67 (.pointer (some ⟨b, o, none⟩))).run Try.prog w = .ok (.agg d.cells) w := range_load h Try.underlying67 rfl deedT
def dd0 : Array Value := #[.int .i64 0, .int .u64 0, .slice none 0 0, .int .u64 0, .int .i64 0, .int .i64 0, .int .i64 0]
theorem deed_put (W : World) (d : DD) : (Instr.storeAt 67 (.pointer (some ⟨W.heap.size, 0, none⟩)) (.agg d.cells)).run Try.prog (W.alloc (.cells dd0 67)) = .ok () ((W.alloc (.cells dd0 67)).setCells W.heap.size 0 d.cells.toList) :=
  row_store (Blk.new W 67 dd0) d.cells rfl deedT (by simp [DD.cells, IS.v, Value.oneCell'])
theorem deed_blk (W : World) (d : DD) : Blk ((W.alloc (.cells dd0 67)).setCells W.heap.size 0 d.cells.toList) W.heap.size 67 d.cells := (Blk.new W 67 dd0).put _ rfl
theorem deed_bel (W : World) (d : DD) : Below W.heap.size W ((W.alloc (.cells dd0 67)).setCells W.heap.size 0 d.cells.toList) := below_setCells (bel_box _ _) (Nat.le_refl _) (Nat.le_refl _) _ _
theorem wrap_one {m : Nat} (h : m ≤ 1048576) : IntKind.i64.wrap ((m : Int) + 1) = (m : Int) + 1 := by simp [IntKind.wrap, IntKind.bits]; omega
theorem near_linked {L : List ND} {links a b level : Int} {l : List Int} (h : Rp L links l) (hb : linkB L links 0 0 a b level = true) : hasI (nearI (linkSt L a.toNat b.toNat level.toNat) a level) b = true := by
  obtain ⟨hr, hm, hs⟩ := h.link hb
  obtain ⟨h1, h2, _, h4, h5, _⟩ := linkB_ok hb
  have e1 := th_iff.1 h1
  have e2 := shape_iff (h.shape a h1)
  have e3 := h.hln a.toNat (by omega)
  have e4 := (hs.2 a.toNat).2.2.2.2.2
  have e5 : ((nI L a).ln : Int) = (nI L a).level + 1 := e2.2.2
  unfold nI at e5 h5
  refine hasI_iff.2 (near_mem.2 ⟨⟨by omega, by rw [hs.1]; omega⟩, ?_, by rw [hs.there]; exact h2⟩)
  unfold nearSrc
  refine List.mem_append_left _ ?_
  rw [if_pos ⟨by omega, h4, by rw [e4]; omega⟩]
  exact hm
set_option maxRecDepth 100000 in
set_option maxHeartbeats 8000000 in
theorem right12 (A : Option Addr) (n c : Nat) (ds : List DD) (links : Int) (w : World) (hn : n ≤ 1048576) (hr : Rs w w.heap.size A n 7 (ds.map fun d => d.cells.toList)) (hd : ∀ d ∈ ds, d.Good w w.heap.size) :
    Calls Try.prog 6 #[.slice A n c, .int .i64 links] w (RetB true w) := by
  have HLV := Lib.hid (lives12 w)
  have HR := Lib.hid hr
  have HD := Lib.hid hd
  clear hr hd
  go_enter Try.func6, Try.ntmps6
  cases h30 : decide ((30 : Int) < (n : Int)) with
  | true =>
    go_wp2_with (go_at_call 21; (with_reducible refine HLV.out.mono ?_); rintro e w2 ⟨rfl, b2⟩; have HB2 := Lib.hid b2; clear b2)
    go_ret
    exact ⟨rfl, HB2.out⟩
  | false =>
    have hn30 : n ≤ 30 := by have := of_decide_eq_false h30; omega
    go_upto_region 5 with (go_at_call 21; (with_reducible refine HLV.out.mono ?_); rintro e w2 ⟨rfl, b2⟩; have HB2 := Lib.hid b2; clear b2)
    have HC := Lib.hid (new_e (w := w2))
    go_upto_region 6 with (first
      | ((with_reducible refine wpList_storeE (op := ⟨none, _, _, _, _, _⟩) SR ?s25X ?s25Y ?s25G ?s25O ?s25A ?s25B ?_); (case s25O => exact rfl); (case s25A => exact rfl); (case s25B => exact rfl); (case s25G => exact rfl))
      | (go_at_call 33; (with_reducible refine HC.out.mono ?_); rintro e W1 ⟨g1, n1, c1, rfl, hp, hb⟩; have HB3 := Lib.hid (HB2.out.trans (hb.mono HB2.out.size)); have SR := plane_put W1 (some ⟨g1, 0, none⟩) n1 c1 0 0; have NP := PV.new (en := 0) (tp := 0) hp; have NB := plane_bel W1 (some ⟨g1, 0, none⟩) n1 c1 0 0; obtain ⟨X1, hX⟩ : ∃ x, (W1.alloc (.cells (pgL none 0 0 0 0) 56)).setCells W1.heap.size 0 (pgL (some ⟨g1, 0, none⟩) n1 c1 0 0).toList = x := ⟨_, rfl⟩; rw [hX] at SR NP NB; have HP : Hid (PR X1 W1.heap.size links) := ⟨g1, n1, c1, _, [], NP, Rp.new links⟩; have HB4 := Lib.hid (HB3.out.trans (NB.mono HB3.out.size)); have hts : W1.heap.size < X1.heap.size := NP.blk.lt; clear hX NP NB hp hb))
    clear HC SR HLV h30
    obtain ⟨tg, htg⟩ : ∃ tg, W1.heap.size = tg := ⟨_, rfl⟩
    have htw : w.heap.size ≤ tg := by rw [← htg]; exact HB3.out.size
    rw [htg] at HP hts ⊢
    clear htg HB3 HB2
    go_wp2_with fail
    go_loopw [7, 8, 9, 10, 11, 12, 13, 14, 16, 18, 27] (fun _ _ _ _ _ _ _ _ _ _ s27 wr => ∃ j : Nat, j ≤ n ∧ s27 = .int .i64 j ∧ Hid (PR wr tg links) ∧ Hid (Below w.heap.size w wr)) (fun _ _ _ _ _ _ _ _ _ _ s27 _ => n - (intOf s27).toNat)
    case atStart => exact ⟨0, Nat.zero_le _, rfl, HP, HB4⟩
    case round =>
      obtain ⟨j, hj, rfl, hpr, hb⟩ := hrel
      have hsx := hb.out.size
      by_cases hlt : j < n
      · have hjl : j < (ds.map fun d => d.cells.toList).length := by rw [HR.out.len]; exact hlt
        obtain ⟨pb, po, cs, rfl, hb0, hcs, _, hrg⟩ := HR.out.at_ hlt
        rw [List.getElem?_map] at hcs
        obtain ⟨⟨kind, id, ⟨vA, vn, vc, vxs⟩, tags, a, b, level⟩, hdj, rfl⟩ := Option.map_eq_some_iff.1 hcs
        have HGD := Lib.hid ((HD.out _ (List.mem_of_getElem? hdj)))
        have LD := deed_load (rangeAt_keep hrg fun q => hb.out.cell (p := ⟨pb, q, none⟩) hb0)
        have SR := deed_put wr ⟨kind, id, ⟨vA, vn, vc, vxs⟩, tags, a, b, level⟩
        have NK := deed_blk wr ⟨kind, id, ⟨vA, vn, vc, vxs⟩, tags, a, b, level⟩
        have NB := deed_bel wr ⟨kind, id, ⟨vA, vn, vc, vxs⟩, tags, a, b, level⟩
        obtain ⟨X, hX⟩ : ∃ x, (wr.alloc (.cells dd0 67)).setCells wr.heap.size 0 (DD.cells ⟨kind, id, ⟨vA, vn, vc, vxs⟩, tags, a, b, level⟩).toList = x := ⟨_, rfl⟩
        rw [hX] at SR NK NB
        have HK := Lib.hid NK
        have HPX := Lib.hid (hpr.out.below NB)
        have HBX := Lib.hid (hb.out.trans (NB.mono hsx))
        have htd : tg < wr.heap.size := by obtain ⟨_, _, _, _, _, q, _⟩ := hpr.out; exact q.blk.lt
        clear hX NB hcs hdj hrg hpr hb hjl NK
        unfold DD.cells at LD SR HK
        unfold IS.v at LD SR HK
        go_upto_region 9 with (first
          | ((with_reducible refine wpList_loadE (op := ⟨some 30, _, _, _, _, _⟩) LD ?e7X ?e7G ?e7O ?e7E ?_); (case e7O => exact rfl); (case e7E => exact rfl); (case e7G => exact rfl))
          | ((with_reducible refine wpList_storeE (op := ⟨none, _, _, _, _, _⟩) SR ?s26X ?s26Y ?s26G ?s26O ?s26A ?s26B ?_); (case s26O => exact rfl); (case s26A => exact rfl); (case s26B => exact rfl); (case s26G => exact rfl)))
        clear LD SR
        obtain ⟨td, htd0⟩ : ∃ td, wr.heap.size = td := ⟨_, rfl⟩
        rw [htd0] at HK htd ⊢
        clear htd0
        have k0 : X.cell? ⟨td, 0, none⟩ = some (.int .i64 kind) := HK.out.cell 0
        go_upto_block 2 with fail
        go_cut [8, 9, 10, 11, 12, 13, 14] from 33 to 116 (fun _ _ _ _ _ _ _ wx => Hid (PR wx tg links) ∧ Hid (Below w.heap.size w wx) ∧ Hid (Blk wx td 67 #[.int .i64 kind, .int .u64 id, .slice vA vn vc, .int .u64 tags, .int .i64 a, .int .i64 b, .int .i64 level]))
        case first =>
          obtain ⟨g, m, c2, L, l, hpv, hrp⟩ := HPX.out
          have HPV := Lib.hid hpv
          have HRP := Lib.hid hrp
          have LP := hpv.load
          have hm0 : 0 < m := by have h1 := hpv.pge.len; have h2 := hrp.pos; omega
          have k4 : X.cell? ⟨td, 4, none⟩ = some (.int .i64 a) := HK.out.cell 4
          have k5 : X.cell? ⟨td, 5, none⟩ = some (.int .i64 b) := HK.out.cell 5
          have k6 : X.cell? ⟨td, 6, none⟩ = some (.int .i64 level) := HK.out.cell 6
          clear hpv hrp k0 HPX
          cases hk0 : kind == 0 with
          | true =>
            have LI := row_load_mid HK.out 1 #[.int .u64 id, .slice vA vn vc, .int .u64 tags] rfl Try.underlying25 rfl itemT
            have HV : Hid (IS.At X X.heap.size .i32 ⟨vA, vn, vc, vxs⟩) := (HGD.out.1.below HBX.out).more HBX.out.size
            by_cases hw : putW L links 0 0 level id = 0
            · have HTF : Hid (thB L ((slotI L : Nat) : Int) = false) := by
                show _ = _
                cases e : thB L ((slotI L : Nat) : Int) with
                | false => rfl
                | true => exact absurd (mem_liveI.2 e) (slot_free L)
              have HTT : Hid (thB (putSt L (slotI L) (putND L id vn vxs tags level)) ((slotI L : Nat) : Int) = true) := (put_there HRP.out id vn vxs tags level _).2 (.inr rfl)
              have HR5 := Lib.hid (HRP.out.put hw vn vxs tags)
              have HLL : Hid ((liveI (putSt L (slotI L) (putND L id vn vxs tags level))).length = (liveI L).length + 1) := by
                show _ = _
                rw [← HR5.out.len, ← HRP.out.len]; rfl
              have HLB : Hid ((liveI L).length ≤ 4097) := Nat.le_trans (liveI_le L) HRP.out.le
              have HC := Lib.hid (put_e (en := 0) (tp := 0) HPV.out.pge links level id vA vn vc vxs tags HV.out HGD.out.2 hw rfl)
              clear hw HV
              go_upto_region 17 with (first
                | ((with_reducible refine wpList_loadE (op := ⟨some 57, _, _, _, _, _⟩) LP ?e8X ?e8G ?e8O ?e8E ?_); (case e8O => exact rfl); (case e8E => exact rfl); (case e8G => exact rfl))
                | ((with_reducible refine wpList_loadE (op := ⟨some 59, _, _, _, _, _⟩) LI ?e9X ?e9G ?e9O ?e9E ?_); (case e9O => exact rfl); (case e9E => exact rfl); (case e9G => exact rfl))
                | ((with_reducible refine wpList_storeE (op := ⟨none, _, _, _, _, _⟩) SR ?s27X ?s27Y ?s27G ?s27O ?s27A ?s27B ?_); (case s27O => exact rfl); (case s27A => exact rfl); (case s27B => exact rfl); (case s27G => exact rfl))
                | (go_at_call 34; (with_reducible refine HC.out.mono ?_); rintro e W5 ⟨g5, n5, c5, rfl, hp, hb⟩; have SR := plane_put W5 (some ⟨g5, 0, none⟩) n5 c5 0 0; have NP := PV.new (en := 0) (tp := 0) hp; have NB := plane_bel W5 (some ⟨g5, 0, none⟩) n5 c5 0 0; obtain ⟨X5, hX⟩ : ∃ x, ((W5.alloc (.cells (pgL none 0 0 0 0) 56)).setCells W5.heap.size 0 (pgL (some ⟨g5, 0, none⟩) n5 c5 0 0).toList) = x := ⟨_, rfl⟩; rw [hX] at SR NP NB; have BX5 := hb.trans (NB.mono hb.size); have HX5 := Lib.hid BX5; have HP8 := Lib.hid NP; have HPV5 := Lib.hid (HPV.out.below BX5); have HK5 := Lib.hid (HK.out.below BX5 HK.out.lt); have HB5 := Lib.hid (HBX.out.trans (BX5.mono HBX.out.size)); clear hX NP NB hp hb BX5))
              clear HC LP LI SR k4 k5 k6 HPV HK
              refine wp_region_held_drew (S := fun w' => Below X5.heap.size X5 w') (by kernel_rfl) (below_drewN (Below.refl _ X5) 1) (fun hH => ?_)
              refine wpAnyH_take (i := 0) (v := .agg #[.slice (some ⟨g, 0, none⟩) m c2, .int .i64 0, .int .i64 0]) rfl (by kernel_rfl) (by kernel_rfl) (by kernel_rfl) (fun _ _ _ h => h) (yieldsIf_loadP (by rfl) _ rfl rfl (fun _ q => (HPV5.out.below q).load)) hH ?_
              (try simp only [List.getElem_toArray, List.getElem_cons_zero, Act.put, List.setIfInBounds_toArray, List.set_cons_zero, List.set_cons_succ])
              refine wpAnyH_take (i := 1) (v := .int .i64 ((slotI L : Nat) : Int)) rfl (by kernel_rfl) (by kernel_rfl) (by kernel_rfl) (fun _ _ _ h => h) (.inl ⟨by rfl, fun _ _ => by kernel_rfl⟩) hH ?_
              (try simp only [List.getElem_toArray, List.getElem_cons_zero, List.getElem_cons_succ, Act.put, List.setIfInBounds_toArray, List.set_cons_zero, List.set_cons_succ])
              refine wpAnyH_call 2 24 #[.agg #[.slice (some ⟨g, 0, none⟩) m c2, .int .i64 0, .int .i64 0], .int .i64 ((slotI L : Nat) : Int)] _ (by kernel_rfl) (by rfl) (by kernel_rfl) (by kernel_rfl) (there_e (en := 0) (tp := 0) (HPV5.out.below hH).pge _ HTF.out) ?_
              rintro e Z1 ⟨rfl, bz⟩
              have q1 : Below X5.heap.size X5 Z1 := hH.trans (bz.mono hH.size)
              clear bz
              refine ⟨_, rfl, q1, ?_⟩
              clear hH
              (try simp only [List.getElem_toArray, List.getElem_cons_zero, List.getElem_cons_succ, Act.put, List.setIfInBounds_toArray, List.set_cons_zero, List.set_cons_succ])
              refine wpAnyH_take (i := 3) (v := .bool false) rfl (by kernel_rfl) (by kernel_rfl) (by kernel_rfl) (fun _ _ _ h => h) (.inl ⟨by rfl, fun _ _ => by kernel_rfl⟩) q1 ?_
              (try simp only [List.getElem_toArray, List.getElem_cons_zero, List.getElem_cons_succ, Act.put, List.setIfInBounds_toArray, List.set_cons_zero, List.set_cons_succ])
              refine wpAnyH_take (i := 4) (v := .agg #[.slice (some ⟨g5, 0, none⟩) n5 c5, .int .i64 0, .int .i64 0]) rfl (by kernel_rfl) (by kernel_rfl) (by kernel_rfl) (fun _ _ _ h => h) (yieldsIf_loadP (by rfl) _ rfl rfl (fun _ q => (HP8.out.below q).load)) q1 ?_
              (try simp only [List.getElem_toArray, List.getElem_cons_zero, List.getElem_cons_succ, Act.put, List.setIfInBounds_toArray, List.set_cons_zero, List.set_cons_succ])
              refine wpAnyH_take (i := 5) (v := .int .i64 ((slotI L : Nat) : Int)) rfl (by kernel_rfl) (by kernel_rfl) (by kernel_rfl) (fun _ _ _ h => h) (.inl ⟨by rfl, fun _ _ => by kernel_rfl⟩) q1 ?_
              (try simp only [List.getElem_toArray, List.getElem_cons_zero, List.getElem_cons_succ, Act.put, List.setIfInBounds_toArray, List.set_cons_zero, List.set_cons_succ])
              refine wpAnyH_call 6 24 #[.agg #[.slice (some ⟨g5, 0, none⟩) n5 c5, .int .i64 0, .int .i64 0], .int .i64 ((slotI L : Nat) : Int)] _ (by kernel_rfl) (by rfl) (by kernel_rfl) (by kernel_rfl) (there_e (en := 0) (tp := 0) (HP8.out.below q1).pge _ HTT.out) ?_
              rintro e Z2 ⟨rfl, bz⟩
              have q2 : Below X5.heap.size X5 Z2 := q1.trans (bz.mono q1.size)
              clear bz
              refine ⟨_, rfl, q2, ?_⟩
              clear q1
              (try simp only [List.getElem_toArray, List.getElem_cons_zero, List.getElem_cons_succ, Act.put, List.setIfInBounds_toArray, List.set_cons_zero, List.set_cons_succ])
              refine wpAnyH_take (i := 7) (v := .bool false) rfl (by kernel_rfl) (by kernel_rfl) (by kernel_rfl) (fun _ _ _ h => h) (.inl ⟨by rfl, fun _ _ => by kernel_rfl⟩) q2 ?_
              (try simp only [List.getElem_toArray, List.getElem_cons_zero, List.getElem_cons_succ, Act.put, List.setIfInBounds_toArray, List.set_cons_zero, List.set_cons_succ])
              refine wpAnyH_take (i := 8) (v := .bool false) rfl (by kernel_rfl) (by kernel_rfl) (by kernel_rfl) (fun _ _ _ h => h) (.inl ⟨by rfl, fun _ _ => by kernel_rfl⟩) q2 ?_
              (try simp only [List.getElem_toArray, List.getElem_cons_zero, List.getElem_cons_succ, Act.put, List.setIfInBounds_toArray, List.set_cons_zero, List.set_cons_succ])
              refine wpAnyH_take (i := 9) (v := .bool false) rfl (by kernel_rfl) (by kernel_rfl) (by kernel_rfl) (fun _ _ _ h => h) (.inl ⟨by rfl, fun _ _ => by kernel_rfl⟩) q2 ?_
              (try simp only [List.getElem_toArray, List.getElem_cons_zero, List.getElem_cons_succ, Act.put, List.setIfInBounds_toArray, List.set_cons_zero, List.set_cons_succ])
              refine wpAnyH_take (i := 10) (v := .agg #[.slice (some ⟨g5, 0, none⟩) n5 c5, .int .i64 0, .int .i64 0]) rfl (by kernel_rfl) (by kernel_rfl) (by kernel_rfl) (fun _ _ _ h => h) (yieldsIf_loadP (by rfl) _ rfl rfl (fun _ q => (HP8.out.below q).load)) q2 ?_
              (try simp only [List.getElem_toArray, List.getElem_cons_zero, List.getElem_cons_succ, Act.put, List.setIfInBounds_toArray, List.set_cons_zero, List.set_cons_succ])
              refine wpAnyH_take (i := 13) (v := .agg #[.slice (some ⟨g, 0, none⟩) m c2, .int .i64 0, .int .i64 0]) rfl (by kernel_rfl) (by kernel_rfl) (by kernel_rfl) (fun _ _ _ h => h) (yieldsIf_loadP (by rfl) _ rfl rfl (fun _ q => (HPV5.out.below q).load)) q2 ?_
              (try simp only [List.getElem_toArray, List.getElem_cons_zero, List.getElem_cons_succ, Act.put, List.setIfInBounds_toArray, List.set_cons_zero, List.set_cons_succ])
              refine wpAnyH_call 11 27 #[.agg #[.slice (some ⟨g5, 0, none⟩) n5 c5, .int .i64 0, .int .i64 0]] _ (by kernel_rfl) (by rfl) (by kernel_rfl) (by kernel_rfl) (live_e (en := 0) (tp := 0) (HP8.out.below q2).pge rfl) ?_
              rintro e Z3 ⟨A3, m3, d3, rfl, ho3, bz⟩
              have q3 : Below X5.heap.size X5 Z3 := q2.trans (bz.mono q2.size)
              have L3 := Lib.hid ho3.len
              clear ho3
              clear bz
              refine ⟨_, rfl, q3, ?_⟩
              clear q2
              (try simp only [List.getElem_toArray, List.getElem_cons_zero, List.getElem_cons_succ, Act.put, List.setIfInBounds_toArray, List.set_cons_zero, List.set_cons_succ])
              refine wpAnyH_take (i := 12) (v := .int .i64 m3) rfl (by kernel_rfl) (by kernel_rfl) (by kernel_rfl) (fun _ _ _ h => h) (.inl ⟨by rfl, fun _ _ => by kernel_rfl⟩) q3 ?_
              (try simp only [List.getElem_toArray, List.getElem_cons_zero, List.getElem_cons_succ, Act.put, List.setIfInBounds_toArray, List.set_cons_zero, List.set_cons_succ])
              refine wpAnyH_call 14 27 #[.agg #[.slice (some ⟨g, 0, none⟩) m c2, .int .i64 0, .int .i64 0]] _ (by kernel_rfl) (by rfl) (by kernel_rfl) (by kernel_rfl) (live_e (en := 0) (tp := 0) (HPV5.out.below q3).pge rfl) ?_
              rintro e Z4 ⟨A4, m4, d4, rfl, ho4, bz⟩
              have q4 : Below X5.heap.size X5 Z4 := q3.trans (bz.mono q3.size)
              have L4 := Lib.hid ho4.len
              clear ho4
              clear bz
              refine ⟨_, rfl, q4, ?_⟩
              clear q3
              (try simp only [List.getElem_toArray, List.getElem_cons_zero, List.getElem_cons_succ, Act.put, List.setIfInBounds_toArray, List.set_cons_zero, List.set_cons_succ])
              refine wpAnyH_take (i := 15) (v := .int .i64 m4) rfl (by kernel_rfl) (by kernel_rfl) (by kernel_rfl) (fun _ _ _ h => h) (.inl ⟨by rfl, fun _ _ => by kernel_rfl⟩) q4 ?_
              (try simp only [List.getElem_toArray, List.getElem_cons_zero, List.getElem_cons_succ, Act.put, List.setIfInBounds_toArray, List.set_cons_zero, List.set_cons_succ])
              refine wpAnyH_take (i := 16) (v := .int .i64 ((m4 : Int) + 1)) rfl (by kernel_rfl) (by kernel_rfl) (by kernel_rfl) (fun _ _ _ h => h) (yieldsIf_addR (by rfl) _ _ rfl rfl rfl (wrap_one (by have h1 := L4.out; have h2 := HLB.out; omega))) q4 ?_
              (try simp only [List.getElem_toArray, List.getElem_cons_zero, List.getElem_cons_succ, Act.put, List.setIfInBounds_toArray, List.set_cons_zero, List.set_cons_succ])
              refine wpAnyH_take (i := 17) (v := .bool false) rfl (by kernel_rfl) (by kernel_rfl) (by kernel_rfl) (fun _ _ _ h => h) (yieldsIf_neqR (by rfl) _ _ rfl rfl rfl (bne_eq_false_iff_eq.2 (by have h1 := L3.out; have h2 := L4.out; have h3 := HLL.out; omega))) q4 ?_
              (try simp only [List.getElem_toArray, List.getElem_cons_zero, List.getElem_cons_succ, Act.put, List.setIfInBounds_toArray, List.set_cons_zero, List.set_cons_succ])
              refine wpAnyH_take (i := 18) (v := .bool false) rfl (by kernel_rfl) (by kernel_rfl) (by kernel_rfl) (fun _ _ _ h => h) (.inl ⟨by rfl, fun _ _ => by kernel_rfl⟩) q4 ?_
              (try simp only [List.getElem_toArray, List.getElem_cons_zero, List.getElem_cons_succ, Act.put, List.setIfInBounds_toArray, List.set_cons_zero, List.set_cons_succ])
              refine wpAnyH_done (by kernel_rfl) ?_ _
              have HP8Z := Lib.hid (HP8.out.below q4)
              have HPVZ := Lib.hid (HPV5.out.below q4)
              have HBZ := Lib.hid (HB5.out.trans (q4.mono HB5.out.size))
              have HKZ := Lib.hid (HK5.out.below q4 HK5.out.lt)
              obtain ⟨S1, S2, S3⟩ := PR.store (t := tg) (links := links) ⟨_, _, _, _, _, HPVZ.out, HRP.out⟩ HP8Z.out HR5.out
              have LP8 := HP8Z.out.load
              clear q4
              obtain ⟨W, hW⟩ : ∃ W, Z4 = W := ⟨_, rfl⟩
              rw [hW] at HP8Z HPVZ HBZ HKZ S1 S2 S3 LP8 ⊢
              clear hW
              obtain ⟨V, hV⟩ : ∃ V, W.setCells tg 0 (pgL (some ⟨g5, 0, none⟩) n5 c5 0 0).toList = V := ⟨_, rfl⟩
              rw [hV] at S1 S2 S3
              have HS2 := Lib.hid S2
              have HBV : Hid (Below w.heap.size w V) := HBZ.out.trans (S3.below HBZ.out.size (by rintro k rfl; exact htw))
              have HKV : Hid (Blk V td 67 _) := HKZ.out.tch S3 (by intro e; omega)
              clear S2 S3 hV
              go_wp2_with (first
                | ((with_reducible refine wpList_loadE (op := ⟨some 88, _, _, _, _, _⟩) LP8 ?e1X ?e1G ?e1O ?e1E ?_); (case e1O => exact rfl); (case e1E => exact rfl); (case e1G => exact rfl))
                | ((with_reducible refine wpList_storeE (op := ⟨none, _, _, _, _, _⟩) S1 ?s2X ?s2Y ?s2G ?s2O ?s2A ?s2B ?_); (case s2O => exact rfl); (case s2A => exact rfl); (case s2B => exact rfl); (case s2G => exact rfl)))
              go_meet
              exact ⟨HS2, HBV, HKV⟩
            · have HC := Lib.hid (put_no (en := 0) (tp := 0) HPV.out.pge links level id vA vn vc vxs tags HV.out HGD.out.2 rfl hw)
              have hy0 : (putW L links 0 0 level id == 0) = false := beq_false_of_ne hw
              obtain ⟨y, hy⟩ : ∃ y, putW L links 0 0 level id = y := ⟨_, rfl⟩
              rw [hy] at HC hy0
              clear hw HV hy
              go_wp2_with (first
                | ((with_reducible refine wpList_loadE (op := ⟨some 57, _, _, _, _, _⟩) LP ?e10X ?e10G ?e10O ?e10E ?_); (case e10O => exact rfl); (case e10E => exact rfl); (case e10G => exact rfl))
                | ((with_reducible refine wpList_loadE (op := ⟨some 59, _, _, _, _, _⟩) LI ?e11X ?e11G ?e11O ?e11E ?_); (case e11O => exact rfl); (case e11E => exact rfl); (case e11G => exact rfl))
                | ((with_reducible refine wpList_storeE (op := ⟨none, _, _, _, _, _⟩) SR ?s28X ?s28Y ?s28G ?s28O ?s28A ?s28B ?_); (case s28O => exact rfl); (case s28A => exact rfl); (case s28B => exact rfl); (case s28G => exact rfl))
                | (go_at_call 34; (with_reducible refine HC.out.mono ?_); rintro e W5 ⟨rfl, hb⟩; have SR := plane_put W5 none 0 0 0 0; have NB := plane_bel W5 none 0 0 0 0; obtain ⟨X5, hX⟩ : ∃ x, ((W5.alloc (.cells (pgL none 0 0 0 0) 56)).setCells W5.heap.size 0 (pgL none 0 0 0 0).toList) = x := ⟨_, rfl⟩; rw [hX] at SR NB; have BX5 := hb.trans (NB.mono hb.size); have HPF : Hid (PR X5 tg links) := ⟨_, _, _, _, _, HPV.out.below BX5, HRP.out⟩; have HK5 := Lib.hid (HK.out.below BX5 HK.out.lt); have HB5 := Lib.hid (HBX.out.trans (BX5.mono HBX.out.size)); clear hX NB hb BX5))
              go_meet
              exact ⟨HPF, HB5, HK5⟩
          | false =>
            cases hk1 : kind == 1 with
            | true =>
              obtain ⟨r, hr⟩ : ∃ r, linkB L links 0 0 a b level = r := ⟨_, rfl⟩
              have HC := Lib.hid (link_e (en := 0) (tp := 0) HPV.out.pge hm0 links a b level hr)
              cases r with
              | true =>
                obtain ⟨hR5, hbm, hsm⟩ := HRP.out.link hr
                have HR5 := Lib.hid hR5
                have HNH : Hid (hasI (nearI (linkSt L a.toNat b.toNat level.toNat) a level) b = true) := near_linked HRP.out hr
                have HNB : Hid ((nearI (linkSt L a.toNat b.toNat level.toNat) a level).length ≤ 4097) := Nat.le_trans (near_le _ _ _) hR5.le
                clear hR5 hbm hsm hr
                go_upto_region 22 with (first
                  | ((with_reducible refine wpList_loadE (op := ⟨some 92, _, _, _, _, _⟩) LP ?e12X ?e12G ?e12O ?e12E ?_); (case e12O => exact rfl); (case e12E => exact rfl); (case e12G => exact rfl))
                  | ((with_reducible refine wpList_storeE (op := ⟨none, _, _, _, _, _⟩) SR ?s29X ?s29Y ?s29G ?s29O ?s29A ?s29B ?_); (case s29O => exact rfl); (case s29A => exact rfl); (case s29B => exact rfl); (case s29G => exact rfl))
                  | (go_at_call 35; (with_reducible refine HC.out.mono ?_); rintro e W5 ⟨g5, n5, c5, rfl, hp, hb⟩; replace hp : PgE W5 g5 n5 c5 (linkSt L a.toNat b.toNat level.toNat) := hp; have SR := plane_put W5 (some ⟨g5, 0, none⟩) n5 c5 0 0; have NP := PV.new (en := 0) (tp := 0) hp; have NB := plane_bel W5 (some ⟨g5, 0, none⟩) n5 c5 0 0; obtain ⟨X5, hX⟩ : ∃ x, ((W5.alloc (.cells (pgL none 0 0 0 0) 56)).setCells W5.heap.size 0 (pgL (some ⟨g5, 0, none⟩) n5 c5 0 0).toList) = x := ⟨_, rfl⟩; rw [hX] at SR NP NB; have BX5 := hb.trans (NB.mono hb.size); have HX5 := Lib.hid BX5; have HP8 := Lib.hid NP; have HPV5 := Lib.hid (HPV.out.below BX5); have HK5 := Lib.hid (HK.out.below BX5 HK.out.lt); have HB5 := Lib.hid (HBX.out.trans (BX5.mono HBX.out.size)); clear hX NP NB hp hb BX5))
                clear HC LP SR k4 k5 k6 HPV HK
                refine wp_region_held_drew (S := fun w' => Below X5.heap.size X5 w') (by kernel_rfl) (below_drewN (Below.refl _ X5) 1) (fun hH => ?_)
                refine wpAnyH_take (i := 0) (v := .bool true) rfl (by kernel_rfl) (by kernel_rfl) (by kernel_rfl) (fun _ _ _ h => h) (.inl ⟨by rfl, fun _ _ => by kernel_rfl⟩) hH ?_
                (try simp only [List.getElem_toArray, List.getElem_cons_zero, Act.put, List.setIfInBounds_toArray, List.set_cons_zero, List.set_cons_succ])
                refine wpAnyH_take (i := 1) (v := .bool true) rfl (by kernel_rfl) (by kernel_rfl) (by kernel_rfl) (fun _ _ _ h => h) (.inl ⟨by rfl, fun _ _ => by kernel_rfl⟩) hH ?_
                (try simp only [List.getElem_toArray, List.getElem_cons_zero, List.getElem_cons_succ, Act.put, List.setIfInBounds_toArray, List.set_cons_zero, List.set_cons_succ])
                refine wpAnyH_take (i := 2) (v := .agg #[.slice (some ⟨g5, 0, none⟩) n5 c5, .int .i64 0, .int .i64 0]) rfl (by kernel_rfl) (by kernel_rfl) (by kernel_rfl) (fun _ _ _ h => h) (yieldsIf_loadP (by rfl) _ rfl rfl (fun _ q => (HP8.out.below q).load)) hH ?_
                (try simp only [List.getElem_toArray, List.getElem_cons_zero, List.getElem_cons_succ, Act.put, List.setIfInBounds_toArray, List.set_cons_zero, List.set_cons_succ])
                refine wpAnyH_take (i := 3) (v := .pointer (some ⟨td, 4, none⟩)) rfl (by kernel_rfl) (by kernel_rfl) (by kernel_rfl) (fun _ _ _ h => h) (.inl ⟨by rfl, fun _ _ => by kernel_rfl⟩) hH ?_
                (try simp only [List.getElem_toArray, List.getElem_cons_zero, List.getElem_cons_succ, Act.put, List.setIfInBounds_toArray, List.set_cons_zero, List.set_cons_succ])
                refine wpAnyH_take (i := 4) (v := .int .i64 a) rfl (by kernel_rfl) (by kernel_rfl) (by kernel_rfl) (fun _ _ _ h => h) (yieldsIf_loadP (by rfl) _ rfl rfl (fun _ q => load_i64 ((HK5.out.below q HK5.out.lt).cell 4))) hH ?_
                (try simp only [List.getElem_toArray, List.getElem_cons_zero, List.getElem_cons_succ, Act.put, List.setIfInBounds_toArray, List.set_cons_zero, List.set_cons_succ])
                refine wpAnyH_take (i := 5) (v := .pointer (some ⟨td, 6, none⟩)) rfl (by kernel_rfl) (by kernel_rfl) (by kernel_rfl) (fun _ _ _ h => h) (.inl ⟨by rfl, fun _ _ => by kernel_rfl⟩) hH ?_
                (try simp only [List.getElem_toArray, List.getElem_cons_zero, List.getElem_cons_succ, Act.put, List.setIfInBounds_toArray, List.set_cons_zero, List.set_cons_succ])
                refine wpAnyH_take (i := 6) (v := .int .i64 level) rfl (by kernel_rfl) (by kernel_rfl) (by kernel_rfl) (fun _ _ _ h => h) (yieldsIf_loadP (by rfl) _ rfl rfl (fun _ q => load_i64 ((HK5.out.below q HK5.out.lt).cell 6))) hH ?_
                (try simp only [List.getElem_toArray, List.getElem_cons_zero, List.getElem_cons_succ, Act.put, List.setIfInBounds_toArray, List.set_cons_zero, List.set_cons_succ])
                refine wpAnyH_take (i := 8) (v := .pointer (some ⟨td, 5, none⟩)) rfl (by kernel_rfl) (by kernel_rfl) (by kernel_rfl) (fun _ _ _ h => h) (.inl ⟨by rfl, fun _ _ => by kernel_rfl⟩) hH ?_
                (try simp only [List.getElem_toArray, List.getElem_cons_zero, List.getElem_cons_succ, Act.put, List.setIfInBounds_toArray, List.set_cons_zero, List.set_cons_succ])
                refine wpAnyH_take (i := 9) (v := .int .i64 b) rfl (by kernel_rfl) (by kernel_rfl) (by kernel_rfl) (fun _ _ _ h => h) (yieldsIf_loadP (by rfl) _ rfl rfl (fun _ q => load_i64 ((HK5.out.below q HK5.out.lt).cell 5))) hH ?_
                (try simp only [List.getElem_toArray, List.getElem_cons_zero, List.getElem_cons_succ, Act.put, List.setIfInBounds_toArray, List.set_cons_zero, List.set_cons_succ])
                refine wpAnyH_call 7 31 #[.agg #[.slice (some ⟨g5, 0, none⟩) n5 c5, .int .i64 0, .int .i64 0], .int .i64 a, .int .i64 level] _ (by kernel_rfl) (by rfl) (by kernel_rfl) (by kernel_rfl) (near_e (en := 0) (tp := 0) (HP8.out.below hH).pge a level rfl) ?_
                rintro e Z1 ⟨A1, m1, d1, rfl, ho1, bz⟩
                have q1 : Below X5.heap.size X5 Z1 := hH.trans (bz.mono hH.size)
                have R1 := Lib.hid ho1.rd
                have L1 := Lib.hid ho1.len
                clear ho1
                clear bz
                refine ⟨_, rfl, q1, ?_⟩
                clear hH
                (try simp only [List.getElem_toArray, List.getElem_cons_zero, List.getElem_cons_succ, Act.put, List.setIfInBounds_toArray, List.set_cons_zero, List.set_cons_succ])
                refine wpAnyH_call 10 36 #[.slice A1 m1 d1, .int .i64 b] _ (by kernel_rfl) (by rfl) (by kernel_rfl) (by kernel_rfl) (eg_has A1 m1 d1 _ b _ R1.out (by have h1 := L1.out; have h2 := HNB.out; omega)) ?_
                rintro e Zh ⟨rfl, rfl⟩
                refine ⟨_, congrArg (fun z => Ending.returned (.bool z)) HNH.out, q1, ?_⟩
                (try simp only [List.getElem_toArray, List.getElem_cons_zero, List.getElem_cons_succ, Act.put, List.setIfInBounds_toArray, List.set_cons_zero, List.set_cons_succ])
                refine wpAnyH_take (i := 11) (v := .bool false) rfl (by kernel_rfl) (by kernel_rfl) (by kernel_rfl) (fun _ _ _ h => h) (.inl ⟨by rfl, fun _ _ => by kernel_rfl⟩) q1 ?_
                (try simp only [List.getElem_toArray, List.getElem_cons_zero, List.getElem_cons_succ, Act.put, List.setIfInBounds_toArray, List.set_cons_zero, List.set_cons_succ])
                refine wpAnyH_take (i := 12) (v := .bool false) rfl (by kernel_rfl) (by kernel_rfl) (by kernel_rfl) (fun _ _ _ h => h) (.inl ⟨by rfl, fun _ _ => by kernel_rfl⟩) q1 ?_
                (try simp only [List.getElem_toArray, List.getElem_cons_zero, List.getElem_cons_succ, Act.put, List.setIfInBounds_toArray, List.set_cons_zero, List.set_cons_succ])
                refine wpAnyH_done (by kernel_rfl) ?_ _
                have HP8Z := Lib.hid (HP8.out.below q1)
                have HPVZ := Lib.hid (HPV5.out.below q1)
                have HBZ := Lib.hid (HB5.out.trans (q1.mono HB5.out.size))
                have HKZ := Lib.hid (HK5.out.below q1 HK5.out.lt)
                obtain ⟨S1, S2, S3⟩ := PR.store (t := tg) (links := links) ⟨_, _, _, _, _, HPVZ.out, HRP.out⟩ HP8Z.out HR5.out
                have LP8 := HP8Z.out.load
                clear q1
                obtain ⟨W, hW⟩ : ∃ W, Z1 = W := ⟨_, rfl⟩
                rw [hW] at HP8Z HPVZ HBZ HKZ S1 S2 S3 LP8 ⊢
                clear hW
                obtain ⟨V, hV⟩ : ∃ V, W.setCells tg 0 (pgL (some ⟨g5, 0, none⟩) n5 c5 0 0).toList = V := ⟨_, rfl⟩
                rw [hV] at S1 S2 S3
                have HS2 := Lib.hid S2
                have HBV : Hid (Below w.heap.size w V) := HBZ.out.trans (S3.below HBZ.out.size (by rintro k rfl; exact htw))
                have HKV : Hid (Blk V td 67 _) := HKZ.out.tch S3 (by intro e; omega)
                clear S2 S3 hV
                go_wp2_with (first
                  | ((with_reducible refine wpList_loadE (op := ⟨some 116, _, _, _, _, _⟩) LP8 ?e3X ?e3G ?e3O ?e3E ?_); (case e3O => exact rfl); (case e3E => exact rfl); (case e3G => exact rfl))
                  | ((with_reducible refine wpList_storeE (op := ⟨none, _, _, _, _, _⟩) S1 ?s4X ?s4Y ?s4G ?s4O ?s4A ?s4B ?_); (case s4O => exact rfl); (case s4A => exact rfl); (case s4B => exact rfl); (case s4G => exact rfl)))
                go_meet
                exact ⟨HS2, HBV, HKV⟩
              | false =>
                clear hr
                go_upto_region 22 with (first
                  | ((with_reducible refine wpList_loadE (op := ⟨some 92, _, _, _, _, _⟩) LP ?e13X ?e13G ?e13O ?e13E ?_); (case e13O => exact rfl); (case e13E => exact rfl); (case e13G => exact rfl))
                  | ((with_reducible refine wpList_storeE (op := ⟨none, _, _, _, _, _⟩) SR ?s30X ?s30Y ?s30G ?s30O ?s30A ?s30B ?_); (case s30O => exact rfl); (case s30A => exact rfl); (case s30B => exact rfl); (case s30G => exact rfl))
                  | (go_at_call 35; (with_reducible refine HC.out.mono ?_); rintro e W5 ⟨g5, n5, c5, rfl, hp, hb⟩; replace hp : PgE W5 g5 n5 c5 L := hp; have SR := plane_put W5 (some ⟨g5, 0, none⟩) n5 c5 0 0; have NP := PV.new (en := 0) (tp := 0) hp; have NB := plane_bel W5 (some ⟨g5, 0, none⟩) n5 c5 0 0; obtain ⟨X5, hX⟩ : ∃ x, ((W5.alloc (.cells (pgL none 0 0 0 0) 56)).setCells W5.heap.size 0 (pgL (some ⟨g5, 0, none⟩) n5 c5 0 0).toList) = x := ⟨_, rfl⟩; rw [hX] at SR NP NB; have BX5 := hb.trans (NB.mono hb.size); have HX5 := Lib.hid BX5; have HP8 := Lib.hid NP; have HPV5 := Lib.hid (HPV.out.below BX5); have HK5 := Lib.hid (HK.out.below BX5 HK.out.lt); have HB5 := Lib.hid (HBX.out.trans (BX5.mono HBX.out.size)); clear hX NP NB hp hb BX5))
                clear HC LP SR k4 k5 k6 HPV HK
                refine wp_region_held_drew (S := fun w' => Below X5.heap.size X5 w') (by kernel_rfl) (below_drewN (Below.refl _ X5) 1) (fun hH => ?_)
                refine wpAnyH_take (i := 0) (v := .bool false) rfl (by kernel_rfl) (by kernel_rfl) (by kernel_rfl) (fun _ _ _ h => h) (.inl ⟨by rfl, fun _ _ => by kernel_rfl⟩) hH ?_
                (try simp only [List.getElem_toArray, List.getElem_cons_zero, Act.put, List.setIfInBounds_toArray, List.set_cons_zero, List.set_cons_succ])
                refine wpAnyH_take (i := 1) (v := .bool false) rfl (by kernel_rfl) (by kernel_rfl) (by kernel_rfl) (fun _ _ _ h => h) (.inl ⟨by rfl, fun _ _ => by kernel_rfl⟩) hH ?_
                (try simp only [List.getElem_toArray, List.getElem_cons_zero, List.getElem_cons_succ, Act.put, List.setIfInBounds_toArray, List.set_cons_zero, List.set_cons_succ])
                refine wpAnyH_take (i := 2) (v := undef) rfl (by kernel_rfl) (by kernel_rfl) (by kernel_rfl) (fun _ _ _ h => h) (.inr ⟨by rfl, rfl⟩) hH ?_
                (try simp only [List.getElem_toArray, List.getElem_cons_zero, List.getElem_cons_succ, Act.put, List.setIfInBounds_toArray, List.set_cons_zero, List.set_cons_succ])
                refine wpAnyH_take (i := 3) (v := undef) rfl (by kernel_rfl) (by kernel_rfl) (by kernel_rfl) (fun _ _ _ h => h) (.inr ⟨by rfl, rfl⟩) hH ?_
                (try simp only [List.getElem_toArray, List.getElem_cons_zero, List.getElem_cons_succ, Act.put, List.setIfInBounds_toArray, List.set_cons_zero, List.set_cons_succ])
                refine wpAnyH_take (i := 4) (v := undef) rfl (by kernel_rfl) (by kernel_rfl) (by kernel_rfl) (fun _ _ _ h => h) (.inr ⟨by rfl, rfl⟩) hH ?_
                (try simp only [List.getElem_toArray, List.getElem_cons_zero, List.getElem_cons_succ, Act.put, List.setIfInBounds_toArray, List.set_cons_zero, List.set_cons_succ])
                refine wpAnyH_take (i := 5) (v := undef) rfl (by kernel_rfl) (by kernel_rfl) (by kernel_rfl) (fun _ _ _ h => h) (.inr ⟨by rfl, rfl⟩) hH ?_
                (try simp only [List.getElem_toArray, List.getElem_cons_zero, List.getElem_cons_succ, Act.put, List.setIfInBounds_toArray, List.set_cons_zero, List.set_cons_succ])
                refine wpAnyH_take (i := 6) (v := undef) rfl (by kernel_rfl) (by kernel_rfl) (by kernel_rfl) (fun _ _ _ h => h) (.inr ⟨by rfl, rfl⟩) hH ?_
                (try simp only [List.getElem_toArray, List.getElem_cons_zero, List.getElem_cons_succ, Act.put, List.setIfInBounds_toArray, List.set_cons_zero, List.set_cons_succ])
                refine wpAnyH_take (i := 7) (v := undef) rfl (by kernel_rfl) (by kernel_rfl) (by kernel_rfl) (fun _ _ _ h => h) (.inr ⟨by rfl, rfl⟩) hH ?_
                (try simp only [List.getElem_toArray, List.getElem_cons_zero, List.getElem_cons_succ, Act.put, List.setIfInBounds_toArray, List.set_cons_zero, List.set_cons_succ])
                refine wpAnyH_take (i := 8) (v := undef) rfl (by kernel_rfl) (by kernel_rfl) (by kernel_rfl) (fun _ _ _ h => h) (.inr ⟨by rfl, rfl⟩) hH ?_
                (try simp only [List.getElem_toArray, List.getElem_cons_zero, List.getElem_cons_succ, Act.put, List.setIfInBounds_toArray, List.set_cons_zero, List.set_cons_succ])
                refine wpAnyH_take (i := 9) (v := undef) rfl (by kernel_rfl) (by kernel_rfl) (by kernel_rfl) (fun _ _ _ h => h) (.inr ⟨by rfl, rfl⟩) hH ?_
                (try simp only [List.getElem_toArray, List.getElem_cons_zero, List.getElem_cons_succ, Act.put, List.setIfInBounds_toArray, List.set_cons_zero, List.set_cons_succ])
                refine wpAnyH_take (i := 10) (v := undef) rfl (by kernel_rfl) (by kernel_rfl) (by kernel_rfl) (fun _ _ _ h => h) (.inr ⟨by rfl, rfl⟩) hH ?_
                (try simp only [List.getElem_toArray, List.getElem_cons_zero, List.getElem_cons_succ, Act.put, List.setIfInBounds_toArray, List.set_cons_zero, List.set_cons_succ])
                refine wpAnyH_take (i := 11) (v := undef) rfl (by kernel_rfl) (by kernel_rfl) (by kernel_rfl) (fun _ _ _ h => h) (.inr ⟨by rfl, rfl⟩) hH ?_
                (try simp only [List.getElem_toArray, List.getElem_cons_zero, List.getElem_cons_succ, Act.put, List.setIfInBounds_toArray, List.set_cons_zero, List.set_cons_succ])
                refine wpAnyH_take (i := 12) (v := .bool false) rfl (by kernel_rfl) (by kernel_rfl) (by kernel_rfl) (fun _ _ _ h => h) (.inl ⟨by rfl, fun _ _ => by kernel_rfl⟩) hH ?_
                (try simp only [List.getElem_toArray, List.getElem_cons_zero, List.getElem_cons_succ, Act.put, List.setIfInBounds_toArray, List.set_cons_zero, List.set_cons_succ])
                refine wpAnyH_done (by kernel_rfl) ?_ _
                have HP8Z := Lib.hid (HP8.out.below hH)
                have HPVZ := Lib.hid (HPV5.out.below hH)
                have HBZ := Lib.hid (HB5.out.trans (hH.mono HB5.out.size))
                have HKZ := Lib.hid (HK5.out.below hH HK5.out.lt)
                obtain ⟨S1, S2, S3⟩ := PR.store (t := tg) (links := links) ⟨_, _, _, _, _, HPVZ.out, HRP.out⟩ HP8Z.out HRP.out
                have LP8 := HP8Z.out.load
                clear hH
                obtain ⟨W, hW⟩ : ∃ W, X5.drew = W := ⟨_, rfl⟩
                rw [hW] at HP8Z HPVZ HBZ HKZ S1 S2 S3 LP8 ⊢
                clear hW
                obtain ⟨V, hV⟩ : ∃ V, W.setCells tg 0 (pgL (some ⟨g5, 0, none⟩) n5 c5 0 0).toList = V := ⟨_, rfl⟩
                rw [hV] at S1 S2 S3
                have HS2 := Lib.hid S2
                have HBV : Hid (Below w.heap.size w V) := HBZ.out.trans (S3.below HBZ.out.size (by rintro k rfl; exact htw))
                have HKV : Hid (Blk V td 67 _) := HKZ.out.tch S3 (by intro e; omega)
                clear S2 S3 hV
                go_wp2_with (first
                  | ((with_reducible refine wpList_loadE (op := ⟨some 116, _, _, _, _, _⟩) LP8 ?e5X ?e5G ?e5O ?e5E ?_); (case e5O => exact rfl); (case e5E => exact rfl); (case e5G => exact rfl))
                  | ((with_reducible refine wpList_storeE (op := ⟨none, _, _, _, _, _⟩) S1 ?s6X ?s6Y ?s6G ?s6O ?s6A ?s6B ?_); (case s6O => exact rfl); (case s6A => exact rfl); (case s6B => exact rfl); (case s6G => exact rfl)))
                go_meet
                exact ⟨HS2, HBV, HKV⟩
            | false =>
              have hdb : dropB L links 0 0 a = thB L a := by unfold dropB; rw [HRP.out.chk rfl, Bool.true_and]
              have hC := drop_e (en := 0) (tp := 0) HPV.out.pge hm0 links a hdb
              simp only [ite_self] at hC
              have HC := Lib.hid hC
              have HTH : Hid (∀ Y, Below X.heap.size X Y → Calls Try.prog 24 #[.agg #[.slice (some ⟨g, 0, none⟩) m c2, .int .i64 0, .int .i64 0], .int .i64 a] Y (RetB (thB L a) Y)) := fun Y hY => there_e (en := 0) (tp := 0) (HPV.out.below hY).pge a rfl
              clear hC hdb
              cases hta : thB L a with
              | true =>
                rw [hta] at HC HTH
                have hg := HRP.out.gone hta
                have HR5 := Lib.hid (HRP.out.drop hta hg)
                have HNT : Hid (thB (dropSt L a.toNat) a = false) := by
                  show _ = _
                  cases e : thB (dropSt L a.toNat) a with
                  | false => rfl
                  | true => exact absurd rfl ((hg.there HRP.out hta a).1 e).2
                clear hg hta
                go_upto_region 11 with (first
                  | ((with_reducible refine wpList_loadE (op := ⟨some 34, _, _, _, _, _⟩) LP ?e14X ?e14G ?e14O ?e14E ?_); (case e14O => exact rfl); (case e14E => exact rfl); (case e14G => exact rfl))
                  | ((with_reducible refine wpList_storeE (op := ⟨none, _, _, _, _, _⟩) SR ?s31X ?s31Y ?s31G ?s31O ?s31A ?s31B ?_); (case s31O => exact rfl); (case s31A => exact rfl); (case s31B => exact rfl); (case s31G => exact rfl))
                  | (go_at_call 37; (with_reducible refine HC.out.mono ?_); rintro e W5 ⟨g5, n5, c5, rfl, hp, hb⟩; replace hp : PgE W5 g5 n5 c5 (dropSt L a.toNat) := hp; have SR := plane_put W5 (some ⟨g5, 0, none⟩) n5 c5 0 0; have NP := PV.new (en := 0) (tp := 0) hp; have NB := plane_bel W5 (some ⟨g5, 0, none⟩) n5 c5 0 0; obtain ⟨X5, hX⟩ : ∃ x, ((W5.alloc (.cells (pgL none 0 0 0 0) 56)).setCells W5.heap.size 0 (pgL (some ⟨g5, 0, none⟩) n5 c5 0 0).toList) = x := ⟨_, rfl⟩; rw [hX] at SR NP NB; have BX5 := hb.trans (NB.mono hb.size); have HX5 := Lib.hid BX5; have HP8 := Lib.hid NP; have HPV5 := Lib.hid (HPV.out.below BX5); have HK5 := Lib.hid (HK.out.below BX5 HK.out.lt); have HB5 := Lib.hid (HBX.out.trans (BX5.mono HBX.out.size)); clear hX NP NB hp hb BX5))
                clear HC LP SR k4 k5 k6 HPV HK
                have LP5 := HPV5.out.load
                have k4 : X5.cell? ⟨td, 4, none⟩ = some (.int .i64 a) := HK5.out.cell 4
                have HT1 := Lib.hid (HTH.out X5 HX5.out)
                go_wp2_with (first
                  | ((with_reducible refine wpList_loadE (op := ⟨some 42, _, _, _, _, _⟩) LP5 ?e15X ?e15G ?e15O ?e15E ?_); (case e15O => exact rfl); (case e15E => exact rfl); (case e15G => exact rfl))
                  | ((with_reducible refine wpList_loadG (op := ⟨some 48, _, _, _, _, _⟩) LP8 ?g22X ?g22W ?g22O ?g22E ?_); (case g22O => exact rfl); (case g22E => exact rfl); (case g22W => kernel_rfl))
                  | ((with_reducible refine wpList_loadE (op := ⟨some 53, _, _, _, _, _⟩) LP9 ?e16X ?e16G ?e16O ?e16E ?_); (case e16O => exact rfl); (case e16E => exact rfl); (case e16G => exact rfl))
                  | ((with_reducible refine wpList_storeE (op := ⟨none, _, _, _, _, _⟩) S1 ?s32X ?s32Y ?s32G ?s32O ?s32A ?s32B ?_); (case s32O => exact rfl); (case s32A => exact rfl); (case s32B => exact rfl); (case s32G => exact rfl))
                  | (go_at_call 24; (with_reducible refine HT1.out.mono ?_); rintro e W6 ⟨rfl, hb⟩; have HB6 := Lib.hid hb; have k4' : W6.cell? ⟨td, 4, none⟩ = some (.int .i64 a) := (HK5.out.below hb HK5.out.lt).cell 4; have LP8 := (HP8.out.below hb).load; have HT2 := Lib.hid (there_e (en := 0) (tp := 0) (HP8.out.below hb).pge a HNT.out); clear hb)
                  | (go_at_call 24; (with_reducible refine HT2.out.mono ?_); rintro e W7 ⟨rfl, hb⟩; have hb7 := HB6.out.trans (hb.mono HB6.out.size); have HP8Z := Lib.hid (HP8.out.below hb7); have HPVZ := Lib.hid (HPV5.out.below hb7); have HBZ := Lib.hid (HB5.out.trans (hb7.mono HB5.out.size)); have HKZ := Lib.hid (HK5.out.below hb7 HK5.out.lt); obtain ⟨S1, S2, S3⟩ := PR.store (t := tg) (links := links) ⟨_, _, _, _, _, HPVZ.out, HRP.out⟩ HP8Z.out HR5.out; have LP9 := HP8Z.out.load; obtain ⟨V, hV⟩ : ∃ V, W7.setCells tg 0 (pgL (some ⟨g5, 0, none⟩) n5 c5 0 0).toList = V := ⟨_, rfl⟩; rw [hV] at S1 S2 S3; have HS2 := Lib.hid S2; have HBV : Hid (Below w.heap.size w V) := HBZ.out.trans (S3.below HBZ.out.size (by rintro k rfl; exact htw)); have HKV : Hid (Blk V td 67 _) := HKZ.out.tch S3 (by intro e; omega); clear S2 S3 hV hb hb7))
                go_meet
                exact ⟨HS2, HBV, HKV⟩
              | false =>
                rw [hta] at HC HTH
                have HNT : Hid (thB L a = false) := hta
                clear hta
                go_upto_region 11 with (first
                  | ((with_reducible refine wpList_loadE (op := ⟨some 34, _, _, _, _, _⟩) LP ?e17X ?e17G ?e17O ?e17E ?_); (case e17O => exact rfl); (case e17E => exact rfl); (case e17G => exact rfl))
                  | ((with_reducible refine wpList_storeE (op := ⟨none, _, _, _, _, _⟩) SR ?s33X ?s33Y ?s33G ?s33O ?s33A ?s33B ?_); (case s33O => exact rfl); (case s33A => exact rfl); (case s33B => exact rfl); (case s33G => exact rfl))
                  | (go_at_call 37; (with_reducible refine HC.out.mono ?_); rintro e W5 ⟨g5, n5, c5, rfl, hp, hb⟩; replace hp : PgE W5 g5 n5 c5 L := hp; have SR := plane_put W5 (some ⟨g5, 0, none⟩) n5 c5 0 0; have NP := PV.new (en := 0) (tp := 0) hp; have NB := plane_bel W5 (some ⟨g5, 0, none⟩) n5 c5 0 0; obtain ⟨X5, hX⟩ : ∃ x, ((W5.alloc (.cells (pgL none 0 0 0 0) 56)).setCells W5.heap.size 0 (pgL (some ⟨g5, 0, none⟩) n5 c5 0 0).toList) = x := ⟨_, rfl⟩; rw [hX] at SR NP NB; have BX5 := hb.trans (NB.mono hb.size); have HX5 := Lib.hid BX5; have HP8 := Lib.hid NP; have HPV5 := Lib.hid (HPV.out.below BX5); have HK5 := Lib.hid (HK.out.below BX5 HK.out.lt); have HB5 := Lib.hid (HBX.out.trans (BX5.mono HBX.out.size)); clear hX NP NB hp hb BX5))
                clear HC LP SR k4 k5 k6 HPV HK
                have LP5 := HPV5.out.load
                have k4 : X5.cell? ⟨td, 4, none⟩ = some (.int .i64 a) := HK5.out.cell 4
                have HT1 := Lib.hid (HTH.out X5 HX5.out)
                go_wp2_with (first
                  | ((with_reducible refine wpList_loadE (op := ⟨some 42, _, _, _, _, _⟩) LP5 ?e18X ?e18G ?e18O ?e18E ?_); (case e18O => exact rfl); (case e18E => exact rfl); (case e18G => exact rfl))
                  | ((with_reducible refine wpList_loadG (op := ⟨some 48, _, _, _, _, _⟩) LP8 ?g23X ?g23W ?g23O ?g23E ?_); (case g23O => exact rfl); (case g23E => exact rfl); (case g23W => kernel_rfl))
                  | ((with_reducible refine wpList_loadE (op := ⟨some 53, _, _, _, _, _⟩) LP9 ?e19X ?e19G ?e19O ?e19E ?_); (case e19O => exact rfl); (case e19E => exact rfl); (case e19G => exact rfl))
                  | ((with_reducible refine wpList_storeE (op := ⟨none, _, _, _, _, _⟩) S1 ?s34X ?s34Y ?s34G ?s34O ?s34A ?s34B ?_); (case s34O => exact rfl); (case s34A => exact rfl); (case s34B => exact rfl); (case s34G => exact rfl))
                  | (go_at_call 24; (with_reducible refine HT1.out.mono ?_); rintro e W6 ⟨rfl, hb⟩; have HB6 := Lib.hid hb; have k4' : W6.cell? ⟨td, 4, none⟩ = some (.int .i64 a) := (HK5.out.below hb HK5.out.lt).cell 4; have LP8 := (HP8.out.below hb).load; have HT2 := Lib.hid (there_e (en := 0) (tp := 0) (HP8.out.below hb).pge a HNT.out); clear hb)
                  | (go_at_call 24; (with_reducible refine HT2.out.mono ?_); rintro e W7 ⟨rfl, hb⟩; have hb7 := HB6.out.trans (hb.mono HB6.out.size); have HP8Z := Lib.hid (HP8.out.below hb7); have HPVZ := Lib.hid (HPV5.out.below hb7); have HBZ := Lib.hid (HB5.out.trans (hb7.mono HB5.out.size)); have HKZ := Lib.hid (HK5.out.below hb7 HK5.out.lt); obtain ⟨S1, S2, S3⟩ := PR.store (t := tg) (links := links) ⟨_, _, _, _, _, HPVZ.out, HRP.out⟩ HP8Z.out HRP.out; have LP9 := HP8Z.out.load; obtain ⟨V, hV⟩ : ∃ V, W7.setCells tg 0 (pgL (some ⟨g5, 0, none⟩) n5 c5 0 0).toList = V := ⟨_, rfl⟩; rw [hV] at S1 S2 S3; have HS2 := Lib.hid S2; have HBV : Hid (Below w.heap.size w V) := HBZ.out.trans (S3.below HBZ.out.size (by rintro k rfl; exact htw)); have HKV : Hid (Blk V td 67 _) := HKZ.out.tch S3 (by intro e; omega); clear S2 S3 hV hb hb7))
                go_meet
                exact ⟨HS2, HBV, HKV⟩
        case rest =>
          obtain ⟨hpr, hb, hk⟩ := hcut
          obtain ⟨g, m, c2, L, l, hpv, hrp⟩ := hpr.out
          have HPV := Lib.hid hpv
          have HRP := Lib.hid hrp
          have HCK : Hid (chkW L links 0 0 = 0) := chkW_yes (hrp.chk rfl)
          have HRL : Hid ((ringI L).length = (liveI L).length) := hrp.right.ring
          have hpl := hpv.pge.len
          clear hpv hrp
          go_upto_region 25 with fail
          refine wp_region_held_drew (S := fun w' => Below wc.heap.size wc w') (by kernel_rfl) (below_drewN (Below.refl _ wc) 1) (fun hH => ?_)
          refine wpAnyH_take (i := 0) (v := .agg #[.slice (some ⟨g, 0, none⟩) m c2, .int .i64 0, .int .i64 0]) rfl (by kernel_rfl) (by kernel_rfl) (by kernel_rfl) (fun _ _ _ h => h) (yieldsIf_loadP (by rfl) _ rfl rfl (fun _ q => (HPV.out.below q).load)) hH ?_
          (try simp only [List.getElem_toArray, List.getElem_cons_zero, Act.put, List.setIfInBounds_toArray, List.set_cons_zero, List.set_cons_succ])
          refine wpAnyH_take (i := 1) (v := .int .i64 links) rfl (by kernel_rfl) (by kernel_rfl) (by kernel_rfl) (fun _ _ _ h => h) (.inl ⟨by rfl, fun _ _ => by kernel_rfl⟩) hH ?_
          (try simp only [List.getElem_toArray, List.getElem_cons_zero, List.getElem_cons_succ, Act.put, List.setIfInBounds_toArray, List.set_cons_zero, List.set_cons_succ])
          refine wpAnyH_call 2 22 #[.agg #[.slice (some ⟨g, 0, none⟩) m c2, .int .i64 0, .int .i64 0], .int .i64 links] _ (by kernel_rfl) (by rfl) (by kernel_rfl) (by kernel_rfl) (chk_e (en := 0) (tp := 0) (HPV.out.below hH).pge links HCK.out) ?_
          rintro e Z1 ⟨rfl, bz⟩
          have q1 : Below wc.heap.size wc Z1 := hH.trans (bz.mono hH.size)
          clear bz
          refine ⟨_, rfl, q1, ?_⟩
          clear hH
          (try simp only [List.getElem_toArray, List.getElem_cons_zero, List.getElem_cons_succ, Act.put, List.setIfInBounds_toArray, List.set_cons_zero, List.set_cons_succ])
          refine wpAnyH_take (i := 3) (v := .bool false) rfl (by kernel_rfl) (by kernel_rfl) (by kernel_rfl) (fun _ _ _ h => h) (yieldsIf_neqR (by rfl) _ _ rfl rfl rfl (bne_self_eq_false _)) q1 ?_
          (try simp only [List.getElem_toArray, List.getElem_cons_zero, List.getElem_cons_succ, Act.put, List.setIfInBounds_toArray, List.set_cons_zero, List.set_cons_succ])
          refine wpAnyH_take (i := 4) (v := .bool false) rfl (by kernel_rfl) (by kernel_rfl) (by kernel_rfl) (fun _ _ _ h => h) (.inl ⟨by rfl, fun _ _ => by kernel_rfl⟩) q1 ?_
          (try simp only [List.getElem_toArray, List.getElem_cons_zero, List.getElem_cons_succ, Act.put, List.setIfInBounds_toArray, List.set_cons_zero, List.set_cons_succ])
          refine wpAnyH_take (i := 5) (v := .agg #[.slice (some ⟨g, 0, none⟩) m c2, .int .i64 0, .int .i64 0]) rfl (by kernel_rfl) (by kernel_rfl) (by kernel_rfl) (fun _ _ _ h => h) (yieldsIf_loadP (by rfl) _ rfl rfl (fun _ q => (HPV.out.below q).load)) q1 ?_
          (try simp only [List.getElem_toArray, List.getElem_cons_zero, List.getElem_cons_succ, Act.put, List.setIfInBounds_toArray, List.set_cons_zero, List.set_cons_succ])
          refine wpAnyH_take (i := 8) (v := .agg #[.slice (some ⟨g, 0, none⟩) m c2, .int .i64 0, .int .i64 0]) rfl (by kernel_rfl) (by kernel_rfl) (by kernel_rfl) (fun _ _ _ h => h) (yieldsIf_loadP (by rfl) _ rfl rfl (fun _ q => (HPV.out.below q).load)) q1 ?_
          (try simp only [List.getElem_toArray, List.getElem_cons_zero, List.getElem_cons_succ, Act.put, List.setIfInBounds_toArray, List.set_cons_zero, List.set_cons_succ])
          refine wpAnyH_call 6 29 #[.agg #[.slice (some ⟨g, 0, none⟩) m c2, .int .i64 0, .int .i64 0]] _ (by kernel_rfl) (by rfl) (by kernel_rfl) (by kernel_rfl) (ring_e (en := 0) (tp := 0) (HPV.out.below q1).pge rfl) ?_
          rintro e Z2 ⟨A2, m2, d2, rfl, ho2, bz⟩
          have q2 : Below wc.heap.size wc Z2 := q1.trans (bz.mono q1.size)
          have L2 := Lib.hid ho2.len
          clear ho2
          clear bz
          refine ⟨_, rfl, q2, ?_⟩
          clear q1
          (try simp only [List.getElem_toArray, List.getElem_cons_zero, List.getElem_cons_succ, Act.put, List.setIfInBounds_toArray, List.set_cons_zero, List.set_cons_succ])
          refine wpAnyH_take (i := 7) (v := .int .i64 m2) rfl (by kernel_rfl) (by kernel_rfl) (by kernel_rfl) (fun _ _ _ h => h) (.inl ⟨by rfl, fun _ _ => by kernel_rfl⟩) q2 ?_
          (try simp only [List.getElem_toArray, List.getElem_cons_zero, List.getElem_cons_succ, Act.put, List.setIfInBounds_toArray, List.set_cons_zero, List.set_cons_succ])
          refine wpAnyH_call 9 27 #[.agg #[.slice (some ⟨g, 0, none⟩) m c2, .int .i64 0, .int .i64 0]] _ (by kernel_rfl) (by rfl) (by kernel_rfl) (by kernel_rfl) (live_e (en := 0) (tp := 0) (HPV.out.below q2).pge rfl) ?_
          rintro e Z3 ⟨A3, m3, d3, rfl, ho3, bz⟩
          have q3 : Below wc.heap.size wc Z3 := q2.trans (bz.mono q2.size)
          have L3 := Lib.hid ho3.len
          clear ho3
          clear bz
          refine ⟨_, rfl, q3, ?_⟩
          clear q2
          (try simp only [List.getElem_toArray, List.getElem_cons_zero, List.getElem_cons_succ, Act.put, List.setIfInBounds_toArray, List.set_cons_zero, List.set_cons_succ])
          refine wpAnyH_take (i := 10) (v := .int .i64 m3) rfl (by kernel_rfl) (by kernel_rfl) (by kernel_rfl) (fun _ _ _ h => h) (.inl ⟨by rfl, fun _ _ => by kernel_rfl⟩) q3 ?_
          (try simp only [List.getElem_toArray, List.getElem_cons_zero, List.getElem_cons_succ, Act.put, List.setIfInBounds_toArray, List.set_cons_zero, List.set_cons_succ])
          refine wpAnyH_take (i := 11) (v := .bool false) rfl (by kernel_rfl) (by kernel_rfl) (by kernel_rfl) (fun _ _ _ h => h) (yieldsIf_neqR (by rfl) _ _ rfl rfl rfl (bne_eq_false_iff_eq.2 (by have h1 := L2.out; have h2 := L3.out; have h3 := HRL.out; omega))) q3 ?_
          (try simp only [List.getElem_toArray, List.getElem_cons_zero, List.getElem_cons_succ, Act.put, List.setIfInBounds_toArray, List.set_cons_zero, List.set_cons_succ])
          refine wpAnyH_take (i := 12) (v := .bool false) rfl (by kernel_rfl) (by kernel_rfl) (by kernel_rfl) (fun _ _ _ h => h) (.inl ⟨by rfl, fun _ _ => by kernel_rfl⟩) q3 ?_
          (try simp only [List.getElem_toArray, List.getElem_cons_zero, List.getElem_cons_succ, Act.put, List.setIfInBounds_toArray, List.set_cons_zero, List.set_cons_succ])
          refine wpAnyH_done (by kernel_rfl) ?_ _
          have HBZ := Lib.hid (hb.out.trans (q3.mono hb.out.size))
          have HKZ := Lib.hid (hk.out.below q3 hk.out.lt)
          have HPVZ := Lib.hid (HPV.out.below q3)
          have HPRZ := Lib.hid (hpr.out.below q3)
          clear q3 hb hk HPV hpr
          have LP := HPVZ.out.load
          have HC := Lib.hid (live_e (en := 0) (tp := 0) HPVZ.out.pge rfl)
          go_wp2_with (first
            | ((with_reducible refine wpList_loadE (op := ⟨some 130, _, _, _, _, _⟩) LP ?e20X ?e20G ?e20O ?e20E ?_); (case e20O => exact rfl); (case e20E => exact rfl); (case e20G => exact rfl))
            | (go_at_call 27; (with_reducible refine HC.out.mono ?_); rintro e W2 ⟨A5, n5, c5, rfl, ho5, hb⟩; have HO5 := Lib.hid ho5; have HB5 := Lib.hid (HBZ.out.trans (hb.mono HBZ.out.size)); have HK5 := Lib.hid (HKZ.out.below hb HKZ.out.lt); have HPV5 := Lib.hid (HPVZ.out.below hb); have HPR5 := Lib.hid (HPRZ.out.below hb); clear ho5 hb))
          clear HC LP HBZ HKZ HPVZ HPRZ
          have hm5 := HO5.out.len
          have hlv := liveI_le L
          have hle := HRP.out.le
          have HR5 := Lib.hid HO5.out.rd
          have HSY : Hid (∀ x y, thB L x = true → y ∈ nearI L x level → x ∈ nearI L y level) := fun x y hx hy => (HRP.out.right.sym HRP.out.hln hx hy).1
          have HNL : Hid (∀ x, (nearI L x level).length ≤ 4097) := fun x => Nat.le_trans (near_le _ _ _) hle
          obtain ⟨M, hM⟩ : ∃ M, liveI L = M := ⟨_, rfl⟩
          have HML : Hid (∀ x ∈ M, thB L x = true) := fun x hx => mem_liveI.1 (by rw [hM]; exact hx)
          rw [hM] at hm5 hlv HR5
          clear HO5 hM
          go_loopw [16, 18, 133] (fun _ _ s133 wr => ∃ i : Nat, i ≤ n5 ∧ s133 = .int .i64 i ∧ Hid (Below W2.heap.size W2 wr)) (fun _ _ s133 _ => n5 - (intOf s133).toNat)
          case atStart => exact ⟨0, Nat.zero_le _, rfl, Lib.hid (Below.refl _ _)⟩
          case round =>
            obtain ⟨i, hi, rfl, hb⟩ := hrel
            by_cases hli : i < n5
            · obtain ⟨lb, lo, rfl, hlb, hx0⟩ := rd_ig HR5.out hli
              have hx4 : wr.cell? ⟨lb, lo + i, none⟩ = some (.int .i64 (ig M i)) := (hb.out.cell (p := ⟨lb, lo + i, none⟩) hlb).trans hx0
              have hth := HML.out _ (ig_mem (xs := M) (k := i) (by omega))
              obtain ⟨s, hs⟩ : ∃ s, ig M i = s := ⟨_, rfl⟩
              rw [hs] at hx4 hth
              have HTS := Lib.hid hth
              have LP := (HPV5.out.below hb.out).load
              have k6 : wr.cell? ⟨td, 6, none⟩ = some (.int .i64 level) := (HK5.out.below hb.out HK5.out.lt).cell 6
              have HC := Lib.hid (near_e (en := 0) (tp := 0) (HPV5.out.below hb.out).pge s level rfl)
              clear hs hx0 hth
              go_wp2_with (first
                | ((with_reducible refine wpList_loadE (op := ⟨some 137, _, _, _, _, _⟩) LP ?e21X ?e21G ?e21O ?e21E ?_); (case e21O => exact rfl); (case e21E => exact rfl); (case e21G => exact rfl))
                | (go_at_call 31; (with_reducible refine HC.out.mono ?_); rintro e W3 ⟨A6, n6, c6, rfl, ho6, hb6⟩; have HO6 := Lib.hid ho6; have HB6 := Lib.hid (hb.out.trans (hb6.mono hb.out.size)); clear ho6 hb6))
              clear HC LP k6 hb
              have hm6 := HO6.out.len
              have hnl := HNL.out s
              have HR6 := Lib.hid HO6.out.rd
              obtain ⟨N, hN⟩ : ∃ N, nearI L s level = N := ⟨_, rfl⟩
              have HNN : Hid (∀ y ∈ N, y ∈ nearI L s level) := fun y hy => by rw [hN]; exact hy
              rw [hN] at hm6 hnl HR6
              clear HO6 hN
              obtain ⟨wo, hwo⟩ : ∃ wo : World, wo = wr := ⟨_, rfl⟩
              go_loopw [18, 143] (fun _ s143 wx => ∃ k : Nat, k ≤ n6 ∧ s143 = .int .i64 k ∧ Hid (Below W3.heap.size W3 wx)) (fun _ s143 _ => n6 - (intOf s143).toNat)
              case atStart => exact ⟨0, Nat.zero_le _, rfl, Lib.hid (Below.refl _ _)⟩
              case round =>
                clear hwo
                obtain ⟨k, hk, rfl, hb2⟩ := hrel
                by_cases hlk : k < n6
                · obtain ⟨nb, no, rfl, hnb, hy0⟩ := rd_ig HR6.out hlk
                  have hy4 : wr.cell? ⟨nb, no + k, none⟩ = some (.int .i64 (ig N k)) := (hb2.out.cell (p := ⟨nb, no + k, none⟩) hnb).trans hy0
                  have hmy := HNN.out _ (ig_mem (xs := N) (k := k) (by omega))
                  obtain ⟨y, hy⟩ : ∃ y, ig N k = y := ⟨_, rfl⟩
                  rw [hy] at hy4 hmy
                  have hy1 := (th_iff.1 (near_there hmy)).1
                  have hyn : (y != 0) = true := bne_iff_ne.2 (by omega)
                  have HHS : Hid (hasI (nearI L y level) s = true) := hasI_iff.2 (HSY.out s y HTS.out hmy)
                  have hbw := HB6.out.trans (hb2.out.mono HB6.out.size)
                  have LP := (HPV5.out.below hbw).load
                  have k6 : wr.cell? ⟨td, 6, none⟩ = some (.int .i64 level) := (HK5.out.below hbw HK5.out.lt).cell 6
                  have HC := Lib.hid (near_e (en := 0) (tp := 0) (HPV5.out.below hbw).pge y level rfl)
                  have hnl2 := HNL.out y
                  clear hy hy0 hmy hbw
                  go_wp2_with (first
                    | ((with_reducible refine wpList_loadG (op := ⟨some 150, _, _, _, _, _⟩) LP ?g24X ?g24W ?g24O ?g24E ?_); (case g24O => exact rfl); (case g24E => exact rfl); (case g24W => kernel_rfl))
                    | (go_at_call 31; (with_reducible refine HC.out.mono ?_); rintro e W4 ⟨A7, n7, c7, rfl, ho7, hb7⟩; have HHC := eg_has A7 n7 c7 _ s W4 ho7.rd (by have := ho7.len; omega); rw [HHS.out] at HHC; replace HHC := Lib.hid HHC; have HB7 := Lib.hid (hb2.out.trans (hb7.mono hb2.out.size)); clear ho7 hb7)
                    | (go_at_call 36; (with_reducible refine HHC.out.mono ?_); rintro e W8 ⟨rfl, rfl⟩))
                  clear HC LP hb2 HHC
                  go_roundw
                  case rel => exact ⟨k + 1, by omega, by go_num, HB7⟩
                  case measure => simp [intOf]; omega
                · obtain rfl : k = n6 := by omega
                  have HBN := Lib.hid (HB6.out.trans (hb2.out.mono HB6.out.size))
                  clear hb2
                  go_wp2_with fail
                  go_roundw
                  case rel => exact ⟨i + 1, by omega, by go_num, HBN⟩
                  case measure => simp [intOf]; omega
            · obtain rfl : i = n5 := by omega
              have HPN := Lib.hid (HPR5.out.below hb.out)
              have HBN := Lib.hid (HB5.out.trans (hb.out.mono HB5.out.size))
              clear hb
              go_wp2_with fail
              go_roundw
              case rel => exact ⟨j + 1, by omega, by go_num, HPN, HBN⟩
              case measure => simp [intOf]; omega
      · obtain rfl : j = n := by omega
        go_wp2_with fail
        go_ret
        exact ⟨rfl, hb.out⟩
end Go.Proofs.Ytkhnnjeinpojkaa
