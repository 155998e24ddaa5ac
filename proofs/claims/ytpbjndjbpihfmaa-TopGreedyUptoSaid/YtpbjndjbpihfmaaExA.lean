/- All that is near, the nearest first: exact's hits. Printed by genExA.py. -/
import Derived.Test.YtpbjndjbpihfmaaRkJ
import Derived.Deep.CutRange
namespace Go.Proofs.Ytpbjndjbpihfmaa
open Go.RowKit
def spX (q : IS) (d : ItX) : Sp := ⟨dX q d, d.id, 0⟩
theorem flatS_app (l : List Sp) (x : Sp) : flatS (l ++ [x]) = flatS l ++ (spC x).toList := by
  unfold flatS; rw [List.map_append, List.flatten_append]; rfl
/-- Whether all of a mask are of the tags. -/
def hasX (tags mask : Int) : Bool := bits .andNot .u64 mask tags == 0
set_option maxRecDepth 100000 in
theorem tag_hasX (t m : Int) (w : World) : Calls Try.prog 27 #[.int .u64 t, .int .u64 m] w fun e w' => e = .returned (.bool (hasX t m)) ∧ w = w' := by
  unfold hasX
  go_enter Try.func27, Try.ntmps27
  go_wp2
  go_ret
  exact ⟨rfl, rfl⟩
theorem hit_load {w : World} {b t : Nat} {x : Sp} (h : Blk w b t #[.int .u64 x.d, .int .u64 x.id]) : (Instr.loadAt 29 (.pointer (some ⟨b, 0, none⟩))).run Try.prog w = .ok (hitV x) w :=
  row_load h Try.underlying29 rfl hitT
set_option maxRecDepth 100000 in
theorem rank_hit (a b : Sp) (w : World) : Calls Try.prog 9 #[hitV a, hitV b] w fun e w' => e = .returned (.bool (decide (ordI a b < 0))) ∧ Gw w w' := by
  obtain ⟨w1, hw1⟩ : ∃ x, w.alloc (.cells #[.int .u64 a.d, .int .u64 a.id] 29) = x := ⟨_, rfl⟩
  obtain ⟨w2, hw2⟩ : ∃ x, w1.alloc (.cells #[.int .u64 b.d, .int .u64 b.id] 29) = x := ⟨_, rfl⟩
  have b2 : Below w1.heap.size w1 w2 := by rw [← hw2]; exact (Below.refl _ w1).alloc (Nat.le_refl _) _
  have e1 : w1.heap.size = w.heap.size + 1 := by rw [← hw1]; simp only [World.alloc, Array.size_push]
  have k1 : Blk w1 w.heap.size 29 #[.int .u64 a.d, .int .u64 a.id] := by rw [← hw1]; exact Blk.new _ _ _
  have k2 : Blk w2 (w.heap.size + 1) 29 #[.int .u64 b.d, .int .u64 b.id] := by rw [← hw2, ← e1]; exact Blk.new _ _ _
  have LA := hit_load (x := a) (k1.below b2 k1.lt)
  have LB := hit_load (x := b) k2
  have HG : Hid (Gw w w2) := by show Gw _ _; rw [← hw2, ← hw1]; exact Gw.alloc (Gw.alloc (Gw.refl w) _) _
  have HP := Lib.hid (rank_order a b w2)
  have HE := Lib.hid e1
  clear b2 k1 k2
  unfold hitV at HP LA LB ⊢
  go_enter Try.func9, Try.ntmps9
  go_upto_region 1 with fail
  (try simp only [hw1])
  (try rw [HE.out])
  (try rw [hw2])
  clear hw1 hw2 e1
  go_wp2_with (first | refine wpList_loadE LA _ rfl rfl rfl ?_ | refine wpList_loadE LB _ rfl rfl rfl ?_ | (go_at_call 19; (with_reducible refine HP.out.mono ?_); rintro e V ⟨rfl, g1⟩; have H1 := Lib.hid g1; clear g1 LA LB))
  go_ret
  exact ⟨rfl, HG.out.trans H1.out⟩
/-- Hits, as slices hold them. -/
def htL (x : Sp) : List Value := [.int .u64 x.d, .int .u64 x.id]
def flatH (l : List Sp) : List Value := (l.map htL).flatten
theorem flatH_app (l : List Sp) (x : Sp) : flatH (l ++ [x]) = flatH l ++ htL x := by unfold flatH; rw [List.map_append, List.flatten_append]; simp
def HtAt (w : World) (B : Nat) (A : Option Addr) (n : Nat) (l : List Sp) : Prop := Rs w B A n 2 (l.map htL)
theorem info_hit : (Try.prog.info? 29).map (fun i => (i.zero, i.size, i.bytes)) = some (some (.agg #[.int .u64 0, .int .u64 0]), 2, 16) := by kernel_rfl
/-- What counts, in order. -/
def hitL (q : IS) (mask : Int) (its : List ItX) : List Sp := (its.filter fun d => hasX d.tags mask).map (spX q)
def RetH (l : List Sp) (w : World) (e : Ending) (w' : World) : Prop := ∃ g n c, e = .returned (.slice (some ⟨g, 0, none⟩) n c) ∧ HtAt w' w'.heap.size (some ⟨g, 0, none⟩) n l ∧ n ≤ c ∧ c ≤ maxLen ∧ Below w.heap.size w w'
theorem hitL_step {q : IS} {mask : Int} {its : List ItX} {k : Nat} {d : ItX} (h : its[k]? = some d) : hitL q mask (its.take (k + 1)) = hitL q mask (its.take k) ++ (if hasX d.tags mask then [spX q d] else []) := by
  unfold hitL
  rw [take_stepX h, List.filter_append, List.map_append]
  congr 1
  simp only [List.filter_cons, List.filter_nil]
  split <;> rfl
theorem load_spB {w : World} {b o : Nat} {x : Sp} (h : w.rangeAt b o (spL x)) : (Instr.loadAt 44 (.pointer (some ⟨b, o, none⟩))).run Try.prog w = .ok (.agg (spC x)) w := range_load (xs := spC x) h Try.underlying44 rfl spotTK
theorem SpAt.at_ {w : World} {B : Nat} {A : Option Addr} {n : Nat} {l : List Sp} (h : SpAt w B A n l) {i : Nat} (hi : i < n) : ∃ b o x, A = some ⟨b, o, none⟩ ∧ b < B ∧ l[i]? = some x ∧ w.rangeAt b (o + i * 3) (spL x) := by
  obtain ⟨b, o, c, e, hb, hc, _, hr⟩ := Rs.at_ h hi
  rw [List.getElem?_map] at hc
  obtain ⟨x, hx, rfl⟩ := Option.map_eq_some_iff.1 hc
  exact ⟨b, o, x, e, hb, hx, hr⟩
theorem HtAt.at_ {w : World} {B : Nat} {A : Option Addr} {n : Nat} {l : List Sp} (h : HtAt w B A n l) {i : Nat} (hi : i < n) : ∃ b o x, A = some ⟨b, o, none⟩ ∧ b < B ∧ l[i]? = some x ∧ w.rangeAt b (o + i * 2) (htL x) := by
  obtain ⟨b, o, c, e, hb, hc, _, hr⟩ := Rs.at_ h hi
  rw [List.getElem?_map] at hc
  obtain ⟨x, hx, rfl⟩ := Option.map_eq_some_iff.1 hc
  exact ⟨b, o, x, e, hb, hx, hr⟩
theorem sp_put (W : World) (x : Sp) : (Instr.storeAt 44 (.pointer (some ⟨W.heap.size, 0, none⟩)) (.agg (spC x))).run Try.prog (W.alloc (.cells #[.int .u64 0, .int .u64 0, .int .i64 0] 44)) = .ok () ((W.alloc (.cells #[.int .u64 0, .int .u64 0, .int .i64 0] 44)).setCells W.heap.size 0 (spC x).toList) :=
  row_store (Blk.new W 44 #[.int .u64 0, .int .u64 0, .int .i64 0]) (spC x) rfl spotTK (by simp [spC, Value.oneCell'])
theorem sp_blk (W : World) (x : Sp) : Blk ((W.alloc (.cells #[.int .u64 0, .int .u64 0, .int .i64 0] 44)).setCells W.heap.size 0 (spC x).toList) W.heap.size 44 (spC x) := (Blk.new W 44 #[.int .u64 0, .int .u64 0, .int .i64 0]).put _ rfl
theorem run_hit1 (w : World) (x : Sp) : (Instr.buildSlice 26 1 #[(0, .agg #[.int .u64 x.d, .int .u64 x.id])]).run Try.prog w = .ok (.slice (some ⟨w.heap.size, 0, none⟩) 1 1) (w.alloc (.cells #[.int .u64 x.d, .int .u64 x.id] 29)) := by
  obtain ⟨i, hi, hz, hz1, hz2⟩ := info_parts info_hit
  refine Go.run_buildSlice w _ _ 1 _ _ i (.agg #[.int .u64 0, .int .u64 0]) Try.underlying26 hi hz (by rw [hz1]; decide) (by rw [hz1]; decide) ?_
  rw [hz1]; kernel_rfl
theorem make_hits (base n : Nat) (hn : n ≤ 2097152) (w : World) (hb : base ≤ w.heap.size) : ∃ w', (Instr.makeSlice 26 (.int .i64 0) (.int .i64 (n : Int))).run Try.prog w = .ok (.slice (some ⟨w.heap.size, 0, none⟩) 0 n) w' ∧
      w'.ownsRow base 29 2 (.slice (some ⟨w.heap.size, 0, none⟩) 0 n) 0 [] ∧ w.grownBy w' none := by
  obtain ⟨i, hi, hz, hz1, hz2⟩ := info_parts info_hit
  exact run_make_own w base _ _ i _ 2 Try.underlying26 hi hz hz1 .i64 .i64 n (by rw [hz2]; omega) (by unfold maxLen; omega) hb
set_option maxRecDepth 100000 in
set_option maxHeartbeats 4000000 in
theorem ex_hits (A : Option Addr) (n c : Nat) (its : List ItX) (q : IS) (mask : Int) (w : World) (hI : Its w w.heap.size A n its) (hq : q.Vec w w.heap.size) (hn : n ≤ 1048576) :
    Calls Try.prog 18 #[.slice A n c, q.v, .int .u64 mask] w (RetH (sortSp (hitL q mask its)) w) := by
  obtain ⟨L, hL⟩ : ∃ L, sortSp (hitL q mask its) = L := ⟨_, rfl⟩
  rw [hL]
  have HLL0 := Lib.hid hL
  clear hL
  have HI0 := Lib.hid hI
  have HQ0 := Lib.hid hq
  have HN := Lib.hid hn
  have HLI := Lib.hid hI.len
  clear hI hq hn
  go_enter Try.func18, Try.ntmps18
  go_wp2_with fail
  go_loopw [15, 7] (fun i v wr => ∃ (k : Nat) (ls : List Sp) (A' : Option Addr) (c' : Nat), k ≤ n ∧ i = .int .i64 (k : Nat) ∧ v = .slice A' ls.length c' ∧ Hid (hitL q mask (its.take k) = ls) ∧ Hid (wr.ownsRow w.heap.size 44 3 (.slice A' ls.length c') ls.length (flatS ls)) ∧ Hid (Below w.heap.size w wr)) (fun i _ _ => n - (intOf i).toNat)
  case atStart => exact ⟨0, [], none, 0, Nat.zero_le _, rfl, rfl, rfl, World.ownsRow_nil _ _ _ _, Below.refl _ _⟩
  case round =>
    obtain ⟨k, ls, A', c', hk, rfl, rfl, HLS, HO, HB⟩ := hrel
    have HLL : Hid (ls.length ≤ 1048576) := by
      show ls.length ≤ _
      have h1 := HN.out
      have h2 := HLI.out
      rw [← HLS.out]
      unfold hitL
      rw [List.length_map]
      exact Nat.le_trans (List.length_filter_le _ _) (by rw [List.length_take]; omega)
    have hsz := HB.out.size
    have HSZ := Lib.hid hsz
    by_cases hlt : k < n
    · have hn := HN.out
      obtain ⟨b, o, d, rfl, hbl, hd, hv, hr⟩ := ((HI0.out.below HB.out).at_ hlt)
      have LI := itx_load hr
      obtain ⟨W3, hW3⟩ : ∃ W3, (wr.alloc (.cells itx0 50)).setCells wr.heap.size 0 d.cells.toList = W3 := ⟨_, rfl⟩
      have SI := itx_put wr d
      rw [hW3] at SI
      have bx : Blk W3 wr.heap.size 50 d.cells := by rw [← hW3]; exact itx_blk wr d
      have b3 : Below wr.heap.size wr W3 := by rw [← hW3]; exact put_bel _ _ _
      have z2 : W3.cell? ⟨wr.heap.size, 2, none⟩ = some (.int .u64 d.tags) := bx.cell 2
      have HI := Lib.hid bx
      have HIN : Hid (¬ (some wr.heap.size = (Value.slice A' ls.length c').ownBlock)) := by
        intro q0
        have := (HO.out.lt _ q0.symm).2
        omega
      have HO3 : Hid (W3.drew.ownsRow w.heap.size 44 3 (.slice A' ls.length c') ls.length (flatS ls)) := by
        show W3.ownsRow _ _ _ _ _ _
        exact ownsRow_tch HO.out (Tch.of_below b3 : Tch (fun _ => False) _ _) (fun _ _ q0 => q0)
      have HB3 : Hid (Below w.heap.size w W3) := HB.out.trans (b3.mono HSZ.out)
      have HD : Hid (∀ W' : World, Tch (fun k => some k = (Value.slice A' ls.length c').ownBlock) W3 W' → Calls Try.prog 23 #[q.v, d.vec.v] W' fun e w' => e = .returned (.int .u64 (dX q d)) ∧ W' = w') := by
        intro W' hT
        have hb' : Below w.heap.size w W' := HB3.out.trans (hT.below HB3.out.size (fun k hk => (HO.out.lt k hk.symm).1))
        exact dist_c q d.vec W' w.heap.size (HQ0.out.below hb') ((HI0.out.2 d (List.mem_of_getElem? hd)).below hb')
      have HK := Lib.hid (hitL_step (q := q) (mask := mask) hd)
      clear hW3 bx b3 hr hbl hv hsz
      cases ht : hasX d.tags mask
      · rw [ht] at HK
        simp only [Bool.false_eq_true, if_false, List.append_nil] at HK
        go_upto_region 5 with (first | refine wpList_loadE LI _ rfl rfl rfl ?_ | refine wpList_storeE SI _ _ rfl rfl rfl rfl ?_)
        clear LI SI
        go_wp2_with (go_at_call 27; refine (tag_hasX _ _ _).mono ?_; rw [ht]; rintro e w' ⟨rfl, rfl⟩)
        go_roundw
        case rel => exact ⟨k + 1, ls, A', c', by omega, by go_num, rfl, HK.out.trans HLS.out, HO3.out, HB3.out⟩
        case measure => simp [intOf]; omega
      · rw [ht] at HK
        simp only [if_true] at HK
        go_upto_region 5 with (first | refine wpList_loadE LI _ rfl rfl rfl ?_ | refine wpList_storeE SI _ _ rfl rfl rfl rfl ?_)
        clear LI SI
        go_upto_region 6 with (go_at_call 27; refine (tag_hasX _ _ _).mono ?_; rw [ht]; rintro e w' ⟨rfl, rfl⟩)
        clear z2
        refine wp_region_held_drew (S := fun w' => Tch (fun k => some k = (Value.slice A' ls.length c').ownBlock) W3 w') (by kernel_rfl) ((Tch.refl _ W3).drewN 1) (fun hH => ?_)
        refine wpAnyH_take (i := 0) (v := .slice A' ls.length c') rfl (by kernel_rfl) (by kernel_rfl) (by kernel_rfl) (fun _ _ _ h => h) (.inl ⟨by rfl, fun _ _ => by kernel_rfl⟩) hH ?_
        (try simp only [List.getElem_toArray, List.getElem_cons_zero, Act.put, List.setIfInBounds_toArray, List.set_cons_zero, List.set_cons_succ])
        refine wpAnyH_take (i := 1) (v := q.v) rfl (by kernel_rfl) (by kernel_rfl) (by kernel_rfl) (fun _ _ _ h => h) (.inl ⟨by rfl, fun _ _ => by kernel_rfl⟩) hH ?_
        (try simp only [List.getElem_toArray, List.getElem_cons_zero, List.getElem_cons_succ, Act.put, List.setIfInBounds_toArray, List.set_cons_zero, List.set_cons_succ])
        refine wpAnyH_take (i := 2) (v := .pointer (some ⟨wr.heap.size, 1, none⟩)) rfl (by kernel_rfl) (by kernel_rfl) (by kernel_rfl) (fun _ _ _ h => h) (.inl ⟨by rfl, fun _ _ => by kernel_rfl⟩) hH ?_
        (try simp only [List.getElem_toArray, List.getElem_cons_zero, List.getElem_cons_succ, Act.put, List.setIfInBounds_toArray, List.set_cons_zero, List.set_cons_succ])
        refine wpAnyH_take (i := 3) (v := d.vec.v) rfl (by kernel_rfl) (by kernel_rfl) (by kernel_rfl) (fun _ _ _ h => h) (yieldsIf_loadP (by rfl) _ rfl rfl (fun _ t => load_i32sK ((HI.out.tch t HIN.out).cell 1))) hH ?_
        (try simp only [List.getElem_toArray, List.getElem_cons_zero, List.getElem_cons_succ, Act.put, List.setIfInBounds_toArray, List.set_cons_zero, List.set_cons_succ])
        refine wpAnyH_take (i := 5) (v := .pointer (some ⟨wr.heap.size, 0, none⟩)) rfl (by kernel_rfl) (by kernel_rfl) (by kernel_rfl) (fun _ _ _ h => h) (.inl ⟨by rfl, fun _ _ => by kernel_rfl⟩) hH ?_
        (try simp only [List.getElem_toArray, List.getElem_cons_zero, List.getElem_cons_succ, Act.put, List.setIfInBounds_toArray, List.set_cons_zero, List.set_cons_succ])
        refine wpAnyH_take (i := 6) (v := .int .u64 d.id) rfl (by kernel_rfl) (by kernel_rfl) (by kernel_rfl) (fun _ _ _ h => h) (yieldsIf_loadP (by rfl) _ rfl rfl (fun _ t => load_u64K ((HI.out.tch t HIN.out).cell 0))) hH ?_
        (try simp only [List.getElem_toArray, List.getElem_cons_zero, List.getElem_cons_succ, Act.put, List.setIfInBounds_toArray, List.set_cons_zero, List.set_cons_succ])
        refine wpAnyH_call 4 23 #[q.v, d.vec.v] _ (by kernel_rfl) (by rfl) (by kernel_rfl) (by kernel_rfl) (HD.out _ hH) ?_
        rintro e Z1 ⟨rfl, rfl⟩
        refine ⟨_, rfl, hH, ?_⟩
        (try simp only [List.getElem_toArray, List.getElem_cons_zero, List.getElem_cons_succ, Act.put, List.setIfInBounds_toArray, List.set_cons_zero, List.set_cons_succ])
        refine wpAnyH_take (i := 7) (v := hitV (spX q d)) rfl (by kernel_rfl) (by kernel_rfl) (by kernel_rfl) (fun _ _ _ h => h) (.inl ⟨by rfl, fun _ _ => by kernel_rfl⟩) hH ?_
        (try simp only [List.getElem_toArray, List.getElem_cons_zero, List.getElem_cons_succ, Act.put, List.setIfInBounds_toArray, List.set_cons_zero, List.set_cons_succ])
        refine wpAnyH_take (i := 8) (v := spV (spX q d)) rfl (by kernel_rfl) (by kernel_rfl) (by kernel_rfl) (fun _ _ _ h => h) (.inl ⟨by rfl, fun _ _ => by kernel_rfl⟩) hH ?_
        (try simp only [List.getElem_toArray, List.getElem_cons_zero, List.getElem_cons_succ, Act.put, List.setIfInBounds_toArray, List.set_cons_zero, List.set_cons_succ])
        refine wpAnyH_makeK 9 (.slice (some ⟨W3.drew.heap.size, 0, none⟩) 1 1) (by kernel_rfl) (by rfl) (by kernel_rfl) (exec_spotK (x := spX q d) (by rfl) (by kernel_rfl) W3.drew) (hH.alloc _) ?_
        (try simp only [List.getElem_toArray, List.getElem_cons_zero, List.getElem_cons_succ, Act.put, List.setIfInBounds_toArray, List.set_cons_zero, List.set_cons_succ])
        refine wpAnyH_push1 10 (by kernel_rfl) (by rfl) (.tmp 23) (.tmp 32) 67 44 3 24 _ (by rfl) Try.underlying67 info_spotK rfl (by decide) W3.drew w.heap.size (.slice A' ls.length c') ls.length (flatS ls) (spC (spX q d)) rfl (by kernel_rfl) rfl HO3.out rfl rfl (spL_one (spX q d)) (by have := HLL.out; omega) (by decide) HB3.out.size ?_
        intro g c2 Z2 hown hgr hbz _
        have HT4 : Hid (Tch (fun k => some k = (Value.slice A' ls.length c').ownBlock) W3 Z2) := grownBy_tch (grownBy_trans (a := W3) (b := W3.drew) ⟨rfl, rfl, rfl, Nat.le_refl _, fun _ _ _ => rfl⟩ hgr)
        refine ⟨HT4.out, ?_⟩
        have HO4 : Hid (Z2.ownsRow w.heap.size 44 3 (.slice (some ⟨g, 0, none⟩) (ls.length + 1) c2) (ls.length + 1) (flatS (ls ++ [spX q d]))) := by
          show Z2.ownsRow _ _ _ _ _ _
          rw [flatS_app]; exact hown
        have HB4 : Hid (Below w.heap.size w Z2) := HB3.out.trans ((below_drewN (Below.refl _ W3) 1 : Below _ W3 W3.drew).trans hbz)
        clear hown hgr hbz
        (try simp only [List.getElem_toArray, List.getElem_cons_zero, List.getElem_cons_succ, Act.put, List.setIfInBounds_toArray, List.set_cons_zero, List.set_cons_succ])
        refine wpAnyH_take (i := 11) (v := .slice (some ⟨g, 0, none⟩) (ls.length + 1) c2) rfl (by kernel_rfl) (by kernel_rfl) (by kernel_rfl) (fun _ _ _ h => h) (.inl ⟨by rfl, fun _ _ => by kernel_rfl⟩) HT4.out ?_
        (try simp only [List.getElem_toArray, List.getElem_cons_zero, List.getElem_cons_succ, Act.put, List.setIfInBounds_toArray, List.set_cons_zero, List.set_cons_succ])
        refine wpAnyH_done (by kernel_rfl) ?_ _
        go_wp2_with fail
        go_roundw
        case rel => exact ⟨k + 1, ls ++ [spX q d], some ⟨g, 0, none⟩, c2, by omega, by go_num, by rw [List.length_append]; rfl, by show _ = _; rw [HK.out, HLS.out], by rw [List.length_append]; exact HO4.out, HB4.out⟩
        case measure => simp [intOf]; omega
    · obtain rfl : k = n := by omega
      have hls := HLS.out
      rw [← HLI.out, List.take_length] at hls
      obtain ⟨w8, hm, ho8, hg8⟩ := make_hits w.heap.size ls.length (by have := HLL.out; omega) wr HB.out.size
      have b8 : Below wr.heap.size wr w8 := grow_bel hg8 (fun k q => by cases q) (Nat.le_refl _)
      have HB8 : Hid (Below w.heap.size w w8) := HB.out.trans (b8.mono HSZ.out)
      obtain ⟨hs8, hA8⟩ := own_spAt (ownsRow_tch HO.out (Tch.of_below b8 : Tch (fun _ => False) _ _) (fun _ _ q0 => q0)) rfl
      have HC := Lib.hid (rank_sort A' ls.length c' ls w8 hs8 hA8 (by have := HLL.out; omega))
      have HO8 := Lib.hid ho8
      have HG8 : Hid (wr.heap.size < w8.heap.size) := (ho8.lt _ rfl).2
      rw [show sortSp ls = L by rw [← hls]; exact HLL0.out] at HC
      clear hls b8 hs8 hA8 ho8 hg8 hsz
      go_upto_region 9 with fail
      clear hm
      go_wp2_with (go_at_call 28; (with_reducible refine HC.out.mono ?_); rintro e w9 ⟨A2, n2, c2, rfl, hs9, _, _, hne9, hb9⟩; have HNE9 := Lib.hid hne9; clear hne9; have HS9 := Lib.hid hs9; have HL9 := Lib.hid hs9.len; have HB9 := Lib.hid hb9; clear hs9 hb9)
      replace HO8 := Lib.hid (ownsRow_tch HO8.out (Tch.of_below HB9.out : Tch (fun _ => False) _ _) (fun _ _ q0 => q0))
      replace HB8 : Hid (Below w.heap.size w w9) := HB8.out.trans (HB9.out.mono HB8.out.size)
      obtain ⟨gh, hgh⟩ : ∃ gh, wr.heap.size = gh := ⟨_, rfl⟩
      rw [hgh]
      rw [hgh] at HO8 HG8
      have HNE : Hid (∀ b o, A2 = some ⟨b, o, none⟩ → b ≠ gh) := by
        intro b o q0 q1
        have h1 := HNE9.out b o q0
        have h2 := HG8.out
        omega
      have hn2 : n2 ≤ 1048576 := by
        have h1 := HL9.out
        rw [← HLL0.out, sortSp_len] at h1
        have h3 := HLS.out
        rw [← HLI.out, List.take_length] at h3
        rw [h3] at h1
        have h2 := HLL.out
        omega
      go_loopw [41, 10] (fun i v wr => ∃ (k g c3 : Nat), k ≤ n2 ∧ i = .int .i64 (k : Nat) ∧ v = .slice (some ⟨g, 0, none⟩) k c3 ∧ Hid (wr.ownsRow w.heap.size 29 2 (.slice (some ⟨g, 0, none⟩) k c3) k (flatH (L.take k))) ∧ Hid (Below w.heap.size w wr) ∧ Hid (SpAt wr wr.heap.size A2 n2 L) ∧ Hid (∀ b o, A2 = some ⟨b, o, none⟩ → b ≠ g)) (fun i _ _ => n2 - (intOf i).toNat)
      case atStart => exact ⟨0, gh, ls.length, Nat.zero_le _, rfl, rfl, HO8.out, HB8.out, HS9.out, HNE.out⟩
      case round =>
        obtain ⟨k2, g, c3, hk2, rfl, rfl, HO, HB, HS, HN2⟩ := hrel
        have hsz := HB.out.size
        have HSZ := Lib.hid hsz
        by_cases hlt : k2 < n2
        · obtain ⟨b, o, x, rfl, hbl, hx, hr⟩ := HS.out.at_ hlt
          have LI := load_spB hr
          obtain ⟨W3, hW3⟩ : ∃ W3, (wr.alloc (.cells #[.int .u64 0, .int .u64 0, .int .i64 0] 44)).setCells wr.heap.size 0 (spC x).toList = W3 := ⟨_, rfl⟩
          have SI := sp_put wr x
          rw [hW3] at SI
          have bx : Blk W3 wr.heap.size 44 (spC x) := by rw [← hW3]; exact sp_blk wr x
          have b3 : Below wr.heap.size wr W3 := by rw [← hW3]; exact put_bel _ _ _
          have LH := hit_in (x := x) bx
          have HO3 : Hid (W3.ownsRow w.heap.size 29 2 (.slice (some ⟨g, 0, none⟩) k2 c3) k2 (flatH (L.take k2))) := ownsRow_tch HO.out (Tch.of_below b3 : Tch (fun _ => False) _ _) (fun _ _ q0 => q0)
          have HB3 : Hid (Below w.heap.size w W3) := HB.out.trans (b3.mono HSZ.out)
          have HS3 : Hid (SpAt W3 W3.heap.size (some ⟨b, o, none⟩) n2 L) := (SpAt.below HS.out b3).more b3.size
          have HX : Hid (L.take (k2 + 1) = L.take k2 ++ [x]) := take_stepX hx
          have HBL : Hid (b < W3.heap.size) := Nat.lt_of_lt_of_le hbl b3.size
          clear hW3 bx b3 hr hbl hx hsz
          go_upto_region 12 with (first | refine wpList_loadE LI _ rfl rfl rfl ?_ | refine wpList_storeE SI _ _ rfl rfl rfl rfl ?_)
          clear LI SI
          unfold hitV at LH
          go_wp2_with (first | refine wpList_loadE LH _ rfl rfl rfl ?_ | (at_builtin; refine wpList_push1 rfl (.tmp 45) (.tmp 48) 26 29 2 16 _ rfl Try.underlying26 info_hit rfl (by decide) W3 w.heap.size _ k2 _ #[.int .u64 x.d, .int .u64 x.id] rfl HO3.out rfl rfl (fun u hu => by rcases (by simpa using hu : u = _ ∨ u = _) with rfl | rfl <;> rfl) (by omega) (by decide) HB3.out.size ?_; intro g2 c4 W4 ho hgr hb hat; replace ho := Lib.hid ho; replace hgr := Lib.hid hgr; replace hb := Lib.hid hb; replace hat := Lib.hid hat))
          go_roundw
          case rel =>
            refine ⟨k2 + 1, g2, c4, by omega, by go_num, rfl, ?_, HB3.out.trans hb.out, ?_, ?_⟩
            · rw [HX.out, flatH_app]; exact ho.out
            · refine (Rs.tch HS3.out (grownBy_tch hgr.out) (Nat.le_refl _) (fun b' o' q => ?_)).more hgr.out.size
              have := HN2.out b' o' q
              intro q2
              injection q2 with q2
              exact this q2
            · intro b' o' q
              rcases hat.out with q2 | q2
              · injection q2 with q2
                rw [← q2]
                exact HN2.out b' o' q
              · injection q with q; injection q with q _ _
                subst q
                have := HBL.out
                omega
          case measure => simp [intOf]; omega
        · obtain rfl : k2 = n2 := by omega
          go_wp2_with fail
          go_ret
          have e1 : L.take k2 = L := by rw [← HL9.out, List.take_length]
          have h1 := HO.out
          rw [e1] at h1
          obtain ⟨r1, r2, r3⟩ := Rs.of_own0 (css := L.map htL) h1 (fun c hc => by obtain ⟨x, _, rfl⟩ := List.mem_map.1 hc; rfl) (by simpa using HL9.out)
          exact ⟨g, k2, c3, rfl, r1, r2, r3, HB.out⟩
end Go.Proofs.Ytpbjndjbpihfmaa
