/- Whether planes are one; lives41; the walk of ImageTells. Merged of ImU ImV ImW. -/
import Derived.Test.YtbpcddimnbjoeaaSame
import Derived.Test.YtbpcddimnbjoeaaImS
import Derived.Test.YtbpcddimnbjoeaaImT
import Derived.Test.YtbpcddimnbjoeaaImEH
import Derived.Test.YtbpcddimnbjoeaaPmS
namespace Go.Proofs.Ytbpcddimnbjoeaa
open Go.RowKit
theorem sameBr (xs : List Int) : sameB xs xs = true := by unfold sameB; exact decide_eq_true rfl
set_option maxHeartbeats 400000 in
theorem same_i32s (A B : Option Addr) (n m c d L : Nat) (xs ys : List Int) (w : World) (hx : Rd w L A n (xs.map (.int .i32))) (hy : Rd w L B m (ys.map (.int .i32))) (hn : n ≤ 4611686018427387904) (hm : m ≤ 4611686018427387904) :
    Calls Try.prog 59 #[.slice A n c, .slice B m d] w fun e w' => e = .returned (.bool (sameB xs ys)) ∧ ∃ q, w' = w.drewN q := by
  have lx := hx.lenI
  have ly := hy.lenI
  by_cases hl : n = m
  · subst hl
    have HX := Lib.hid hx
    have HY := Lib.hid hy
    have LX := Lib.hid lx
    have LY := Lib.hid ly
    clear hx hy lx ly
    go_enter Try.func59, Try.ntmps59
    go_wp2
    go_loopw [13] (fun i wr => ∃ k : Nat, k ≤ n ∧ i = .int .i64 k ∧ (∃ q, wr = w.drewN q) ∧ Hid (∀ j, j < k → ig xs j = ig ys j)) (fun i _ => n - (intOf i).toNat)
    case atStart => exact ⟨0, Nat.zero_le _, rfl, ⟨0, rfl⟩, fun j hj => by omega⟩
    case round =>
      obtain ⟨k, hk, rfl, ⟨q, rfl⟩, hv⟩ := hrel
      by_cases hlt : k < n
      · obtain ⟨b, o, rfl, hb, hc⟩ := HX.out.atI hlt
        obtain ⟨b', o', rfl, hb', hc'⟩ := HY.out.atI hlt
        by_cases he : ig xs k = ig ys k
        · have h1 : (ig xs k != ig ys k) = false := by simp [he]
          have HE := Lib.hid he
          clear he
          go_wp2
          go_quiet (fail)
          go_wp2
          go_roundw
          case rel => exact ⟨k + 1, by omega, by go_num, ⟨_, rfl⟩, fun j hj => by
            rcases Nat.lt_or_ge j k with h | h
            · exact hv.out j h
            · obtain rfl : j = k := by omega
              exact HE.out⟩
          case measure => simp [intOf]; omega
        · have h1 : (ig xs k != ig ys k) = true := by simp [he]
          have HE := Lib.hid he
          clear he
          go_wp2
          go_quiet (fail)
          go_wp2
          go_ret
          exact ⟨ret_bool (decide_eq_false fun e => HE.out (by rw [e])).symm, ⟨_, World.drewN_drewN ..⟩⟩
      · go_wp2
        go_ret
        exact ⟨ret_bool (decide_eq_true (ext_getD (LX.out.trans LY.out.symm) fun j hj => hv.out j (by have := LX.out; omega))).symm, ⟨_, rfl⟩⟩
  · have hne : ((n : Int) != m) = true := by simp; omega
    have HX := Lib.hid lx
    have HY := Lib.hid ly
    have HL := Lib.hid hl
    clear hx hy lx ly hl
    go_enter Try.func59, Try.ntmps59
    go_wp2
    go_ret
    exact ⟨ret_bool (decide_eq_false fun e => HL.out (by rw [← HX.out, ← HY.out, e])).symm, ⟨0, rfl⟩⟩
set_option maxRecDepth 100000 in
set_option maxHeartbeats 1000000 in
theorem same_lists (A1 A2 : Option Addr) (n m c1 c2 : Nat) (is ks : List IS) (w : World) (h1 : Rd w w.heap.size A1 n (is.map IS.v)) (h2 : Rd w w.heap.size A2 m (ks.map IS.v)) (hi : ∀ l ∈ is, l.At w w.heap.size .i64) (hk : ∀ l ∈ ks, l.At w w.heap.size .i64)
    (he : is.map IS.xs = ks.map IS.xs) (hn : n ≤ 1048576) : Calls Try.prog 34 #[.slice A1 n c1, .slice A2 m c2] w (RetB true w) := by
  have hl1 : is.length = n := by simpa using h1.len
  have hl2 : ks.length = m := by simpa using h2.len
  have hl3 := congrArg List.length he
  rw [List.length_map, List.length_map] at hl3
  obtain rfl : n = m := by omega
  have H1 := Lib.hid h1
  have H2 := Lib.hid h2
  have HI := Lib.hid hi
  have HK := Lib.hid hk
  have HE := Lib.hid he
  clear h1 h2 hi hk he hl3
  go_enter Try.func34, Try.ntmps34
  go_wp2_with fail
  go_loopw [5, 13] (fun _ s13 wr => ∃ j : Nat, j ≤ n ∧ s13 = .int .i64 j ∧ Hid (Below w.heap.size w wr)) (fun _ s13 _ => n - (intOf s13).toNat)
  case atStart => exact ⟨0, Nat.zero_le _, rfl, Lib.hid (Below.refl _ _)⟩
  case round =>
    obtain ⟨j, hj, rfl, hb⟩ := hrel
    have hsx := hb.out.size
    by_cases hlt : j < n
    · obtain ⟨b1, o1, u, rfl, hb1, hu, hc1⟩ := H1.out.at_ hlt
      obtain ⟨b2, o2, u2, rfl, hb2, hu2, hc2⟩ := H2.out.at_ hlt
      rw [List.getElem?_map] at hu hu2
      obtain ⟨⟨A3, n3, c3, x3⟩, hi3, rfl⟩ := Option.map_eq_some_iff.1 hu
      obtain ⟨⟨A4, n4, c4, x4⟩, hk4, rfl⟩ := Option.map_eq_some_iff.1 hu2
      have hxx : x3 = x4 := by
        have h1 := congrArg (fun l => l[j]?) HE.out
        simp only [List.getElem?_map, hi3, hk4, Option.map_some, Option.some.injEq] at h1
        exact h1
      subst hxx
      have hI3 := HI.out _ (List.mem_of_getElem? hi3)
      have hK4 := HK.out _ (List.mem_of_getElem? hk4)
      have HR3 := Lib.hid ((hI3.2.2.1.below hb.out).more hsx)
      have HR4 := Lib.hid ((hK4.2.2.1.below hb.out).more hsx)
      have HN3 : Hid (n3 ≤ 4611686018427387904) := by have := hI3.2.1; show _ ≤ _; simp only at this; omega
      have HN4 : Hid (n4 ≤ 4611686018427387904) := by have := hK4.2.1; show _ ≤ _; simp only at this; omega
      have HC3 : Hid (∀ Y, Below wr.heap.size wr Y → Y.cell? ⟨b1, o1 + j * 1, none⟩ = some (.slice A3 n3 c3)) := fun Y hY => by
        rw [Nat.mul_one]
        exact (hY.cell (p := ⟨b1, o1 + j, none⟩) (by show b1 < _; omega)).trans ((hb.out.cell (p := ⟨b1, o1 + j, none⟩) hb1).trans hc1)
      have HC4 : Hid (∀ Y, Below wr.heap.size wr Y → Y.cell? ⟨b2, o2 + j * 1, none⟩ = some (.slice A4 n4 c4)) := fun Y hY => by
        rw [Nat.mul_one]
        exact (hY.cell (p := ⟨b2, o2 + j, none⟩) (by show b2 < _; omega)).trans ((hb.out.cell (p := ⟨b2, o2 + j, none⟩) hb2).trans hc2)
      clear hI3 hK4 hi3 hk4 hu hu2 hc1 hc2
      go_upto_region 6 with fail
      refine wp_region_held_drew (S := fun w' => Below wr.heap.size wr w') (by kernel_rfl) (below_drewN (Below.refl _ wr) 1) (fun hH => ?_)
      refine wpAnyH_take (i := 0) (v := .slice (some ⟨b1, o1, none⟩) n c1) rfl (by kernel_rfl) (by kernel_rfl) (by kernel_rfl) (fun _ _ _ h => h) (.inl ⟨by rfl, fun _ _ => by kernel_rfl⟩) hH ?_
      (try simp only [List.getElem_toArray, List.getElem_cons_zero, Act.put, List.setIfInBounds_toArray, List.set_cons_zero, List.set_cons_succ])
      refine wpAnyH_take (i := 1) (v := .int .i64 (j : Int)) rfl (by kernel_rfl) (by kernel_rfl) (by kernel_rfl) (fun _ _ _ h => h) (.inl ⟨by rfl, fun _ _ => by kernel_rfl⟩) hH ?_
      (try simp only [List.getElem_toArray, List.getElem_cons_zero, List.getElem_cons_succ, Act.put, List.setIfInBounds_toArray, List.set_cons_zero, List.set_cons_succ])
      refine wpAnyH_take (i := 2) (v := .pointer (some ⟨b1, o1 + j * 1, none⟩)) rfl (by kernel_rfl) (by kernel_rfl) (by kernel_rfl) (fun _ _ _ h => h) (yieldsIf_index Try.underlying40 sz_list (by rfl) _ _ rfl rfl rfl hlt) hH ?_
      (try simp only [List.getElem_toArray, List.getElem_cons_zero, List.getElem_cons_succ, Act.put, List.setIfInBounds_toArray, List.set_cons_zero, List.set_cons_succ])
      refine wpAnyH_take (i := 3) (v := .slice A3 n3 c3) rfl (by kernel_rfl) (by kernel_rfl) (by kernel_rfl) (fun _ _ _ h => h) (yieldsIf_loadP (by rfl) _ rfl rfl (fun _ q => load_ints (HC3.out _ q))) hH ?_
      (try simp only [List.getElem_toArray, List.getElem_cons_zero, List.getElem_cons_succ, Act.put, List.setIfInBounds_toArray, List.set_cons_zero, List.set_cons_succ])
      refine wpAnyH_take (i := 4) (v := .slice (some ⟨b2, o2, none⟩) n c2) rfl (by kernel_rfl) (by kernel_rfl) (by kernel_rfl) (fun _ _ _ h => h) (.inl ⟨by rfl, fun _ _ => by kernel_rfl⟩) hH ?_
      (try simp only [List.getElem_toArray, List.getElem_cons_zero, List.getElem_cons_succ, Act.put, List.setIfInBounds_toArray, List.set_cons_zero, List.set_cons_succ])
      refine wpAnyH_take (i := 5) (v := .int .i64 (j : Int)) rfl (by kernel_rfl) (by kernel_rfl) (by kernel_rfl) (fun _ _ _ h => h) (.inl ⟨by rfl, fun _ _ => by kernel_rfl⟩) hH ?_
      (try simp only [List.getElem_toArray, List.getElem_cons_zero, List.getElem_cons_succ, Act.put, List.setIfInBounds_toArray, List.set_cons_zero, List.set_cons_succ])
      refine wpAnyH_take (i := 6) (v := .pointer (some ⟨b2, o2 + j * 1, none⟩)) rfl (by kernel_rfl) (by kernel_rfl) (by kernel_rfl) (fun _ _ _ h => h) (yieldsIf_index Try.underlying40 sz_list (by rfl) _ _ rfl rfl rfl hlt) hH ?_
      (try simp only [List.getElem_toArray, List.getElem_cons_zero, List.getElem_cons_succ, Act.put, List.setIfInBounds_toArray, List.set_cons_zero, List.set_cons_succ])
      refine wpAnyH_take (i := 7) (v := .slice A4 n4 c4) rfl (by kernel_rfl) (by kernel_rfl) (by kernel_rfl) (fun _ _ _ h => h) (yieldsIf_loadP (by rfl) _ rfl rfl (fun _ q => load_ints (HC4.out _ q))) hH ?_
      (try simp only [List.getElem_toArray, List.getElem_cons_zero, List.getElem_cons_succ, Act.put, List.setIfInBounds_toArray, List.set_cons_zero, List.set_cons_succ])
      refine wpAnyH_call 8 60 #[.slice A3 n3 c3, .slice A4 n4 c4] _ (by kernel_rfl) (by rfl) (by kernel_rfl) (by kernel_rfl) (same_ints A3 A4 n3 n4 c3 c4 wr.heap.size _ _ _ (HR3.out.below hH) (HR4.out.below hH) HN3.out HN4.out) ?_
      rintro e Z1 ⟨rfl, q, rfl⟩
      have h1 := below_drewN hH q
      rw [sameBr]
      refine ⟨_, rfl, h1, ?_⟩
      clear hH
      (try simp only [List.getElem_toArray, List.getElem_cons_zero, List.getElem_cons_succ, Act.put, List.setIfInBounds_toArray, List.set_cons_zero, List.set_cons_succ])
      refine wpAnyH_take (i := 9) (v := .bool false) rfl (by kernel_rfl) (by kernel_rfl) (by kernel_rfl) (fun _ _ _ h => h) (.inl ⟨by rfl, fun _ _ => by kernel_rfl⟩) h1 ?_
      (try simp only [List.getElem_toArray, List.getElem_cons_zero, List.getElem_cons_succ, Act.put, List.setIfInBounds_toArray, List.set_cons_zero, List.set_cons_succ])
      refine wpAnyH_done (by kernel_rfl) ?_ _
      have HBN := Lib.hid (below_drewN hb.out (1 + q))
      clear hb h1
      go_wp2_with fail
      go_roundw
      case rel => exact ⟨j + 1, by omega, by go_num, HBN⟩
      case measure => simp [intOf]; omega
    · obtain rfl : j = n := by omega
      go_wp2_with fail
      go_ret
      exact ⟨rfl, hb.out⟩

set_option maxRecDepth 100000 in
set_option maxHeartbeats 1000000 in
theorem same_item (id tags : Int) (A1 A2 : Option Addr) (n c1 c2 : Nat) (xs : List Int) (w : World) (h1 : Rd w w.heap.size A1 n (xs.map (.int .i32))) (h2 : Rd w w.heap.size A2 n (xs.map (.int .i32))) (hn : n ≤ 1048576) :
    Calls Try.prog 33 #[.agg #[.int .u64 id, .slice A1 n c1, .int .u64 tags], .agg #[.int .u64 id, .slice A2 n c2, .int .u64 tags]] w (RetB true w) := by
  have b2 : Below w.heap.size w ((w.alloc (.cells #[.int .u64 id, .slice A1 n c1, .int .u64 tags] 39)).alloc (.cells #[.int .u64 id, .slice A2 n c2, .int .u64 tags] 39)) := ((Below.refl _ w).alloc (Nat.le_refl _) _).alloc (by simp) _
  have HS := Lib.hid (fun W (hb : Below w.heap.size w W) => same_i32s A1 A2 n n c1 c2 w.heap.size xs xs W (h1.below hb) (h2.below hb) (by omega) (by omega))
  simp only [sameBr] at HS
  have HB := Lib.hid b2
  clear b2 h1 h2
  go_enter Try.func33, Try.ntmps33
  go_wp2_with (go_at_call 59; (with_reducible refine (HS.out _ HB.out).mono ?_); rintro e w' ⟨rfl, q, rfl⟩)
  go_ret
  exact ⟨rfl, below_drewN HB.out q⟩
theorem ls_xs {ls ls' : List IS} (h : ls.map IS.norm = ls'.map IS.norm) : ls.map IS.xs = ls'.map IS.xs := by
  have := congrArg (List.map IS.xs) h
  simpa [List.map_map, Function.comp_def, IS.norm] using this
theorem rd_of_rs {w : World} {B n : Nat} {A : Option Addr} {ls : List IS} (h : Rs w B A n 1 (ls.map fun l => [l.v])) : Rd w B A n (ls.map IS.v) := by
  refine ⟨by simpa using h.1, fun h0 => ?_⟩
  obtain ⟨b, o, e, hb, hc⟩ := h.2.2 h0
  refine ⟨b, o, e, hb, fun j u hu => ?_⟩
  rw [List.getElem?_map, Option.map_eq_some_iff] at hu
  obtain ⟨l, hl, rfl⟩ := hu
  have := hc j [l.v] (by rw [List.getElem?_map, hl]; rfl) 0 l.v rfl
  rw [Nat.mul_one, Nat.add_zero] at this
  exact this
theorem nodeTU : (Try.prog.info? 42).map (·.size) = some 7 := by kernel_rfl
set_option maxRecDepth 100000 in
set_option maxHeartbeats 4000000 in
theorem same_pl (A A' : Option Addr) (n n' c c' : Nat) (ns ns' : List ND) (en tp : Int) (w : World) (h1 : PgAt w w.heap.size A n c ns) (h2 : PgAt w w.heap.size A' n' c' ns') (he : ns.map ND.norm = ns'.map ND.norm) :
    Calls Try.prog 11 #[.agg (pgL A n c en tp), .agg (pgL A' n' c' en tp)] w (RetB true w) := by
  have hl1 := h1.len
  have hl2 := h2.len
  have hl3 := congrArg List.length he
  rw [List.length_map, List.length_map] at hl3
  obtain rfl : n = n' := by omega
  obtain ⟨w1, hw1⟩ : ∃ x, (w.alloc (.cells #[.slice A n c, .int .i64 en, .int .i64 tp] 24)).alloc (.cells #[.slice A' n c', .int .i64 en, .int .i64 tp] 24) = x := ⟨_, rfl⟩
  have hs : (w.alloc (.cells #[.slice A n c, .int .i64 en, .int .i64 tp] 24)).heap.size = w.heap.size + 1 := by simp only [World.alloc, Array.size_push]
  have b1 : Below w.heap.size w w1 := by rw [← hw1]; exact ((Below.refl _ w).alloc (Nat.le_refl _) _).alloc (by omega) _
  have k1 : Blk w1 w.heap.size 24 #[.slice A n c, .int .i64 en, .int .i64 tp] := by rw [← hw1]; exact (Blk.new w _ _).alloc _
  have k2 : Blk w1 (w.heap.size + 1) 24 #[.slice A' n c', .int .i64 en, .int .i64 tp] := by
    rw [← hw1]
    have := Blk.new (w.alloc (.cells #[.slice A n c, .int .i64 en, .int .i64 tp] 24)) 24 #[.slice A' n c', .int .i64 en, .int .i64 tp]
    rw [hs] at this
    exact this
  have HG1 := Lib.hid (h1.below b1)
  have HG2 := Lib.hid (h2.below b1)
  have HK1 := Lib.hid k1
  have HK2 := Lib.hid k2
  have HE := Lib.hid he
  have HB := Lib.hid b1
  have hn := h1.2.1
  unfold pgL
  clear h1 h2 he b1 k1 k2 hl1 hl2 hl3 hs
  go_enter Try.func11, Try.ntmps11
  go_upto_region 1 with fail
  (try rw [hw1])
  clear hw1
  have a0 : w1.cell? ⟨w.heap.size, 0, none⟩ = some (.slice A n c) := HK1.out.cell 0
  have a1 : w1.cell? ⟨w.heap.size, 1, none⟩ = some (.int .i64 en) := HK1.out.cell 1
  have a2 : w1.cell? ⟨w.heap.size, 2, none⟩ = some (.int .i64 tp) := HK1.out.cell 2
  have b0 : w1.cell? ⟨w.heap.size + 1, 0, none⟩ = some (.slice A' n c') := HK2.out.cell 0
  have b1 : w1.cell? ⟨w.heap.size + 1, 1, none⟩ = some (.int .i64 en) := HK2.out.cell 1
  have b2 : w1.cell? ⟨w.heap.size + 1, 2, none⟩ = some (.int .i64 tp) := HK2.out.cell 2
  go_upto_region 4 with fail
  clear a0 a1 a2 b0 b1 b2
  go_loopw [5, 6, 7, 32] (fun _ _ _ s32 wr => ∃ j : Nat, j ≤ n ∧ s32 = .int .i64 j ∧ Hid (Below w1.heap.size w1 wr)) (fun _ _ _ s32 _ => n - (intOf s32).toNat)
  case atStart => exact ⟨0, Nat.zero_le _, rfl, Lib.hid (Below.refl _ _)⟩
  case round =>
    obtain ⟨j, hj, rfl, hb⟩ := hrel
    by_cases hlt : j < n
    · have HW1 : Hid (w.heap.size ≤ w1.heap.size) := HB.out.size
      obtain ⟨b1, o1, d1, rfl, hb1, hd1, hr1, hat1⟩ := (HG1.out.below (hb.out.mono HW1.out)).node hlt
      obtain ⟨b2, o2, d2, rfl, hb2, hd2, hr2, hat2⟩ := (HG2.out.below (hb.out.mono HW1.out)).node hlt
      have hnm : d1.norm = d2.norm := by
        have h := congrArg (fun l => l[j]?) HE.out
        simp only [List.getElem?_map, hd1, hd2, Option.map_some, Option.some.injEq] at h
        exact h
      have hsz : w.heap.size ≤ wr.heap.size := Nat.le_trans HW1.out hb.out.size
      obtain ⟨id, ⟨vA1, vn, vc1, vx⟩, tg, lv, LA1, ln, lc1, ls1, nx, pv⟩ := d1
      obtain ⟨id', ⟨vA2, vn', vc2, vx'⟩, tg', lv', LA2, ln', lc2, ls2, nx', pv'⟩ := d2
      simp only [ND.norm, IS.norm, ND.mk.injEq, IS.mk.injEq] at hnm
      obtain ⟨rfl, ⟨_, rfl, _, rfl⟩, rfl, rfl, _, rfl, _, hls, rfl, rfl⟩ := hnm
      have HAT1 := Lib.hid hat1
      have HAT2 := Lib.hid hat2
      have HLS := Lib.hid (ls_xs hls)
      have LP1 : (Instr.loadAt 42 (.pointer (some ⟨b1, o1 + j * 7, none⟩))).run Try.prog wr = .ok (.agg #[.int .u64 id, .slice vA1 vn vc1, .int .u64 tg, .int .i64 lv, .slice LA1 ln lc1, .int .i64 nx, .int .i64 pv]) wr := range_load (xs := #[.int .u64 id, .slice vA1 vn vc1, .int .u64 tg, .int .i64 lv, .slice LA1 ln lc1, .int .i64 nx, .int .i64 pv]) hr1 Try.underlying42 rfl nodeTU
      obtain ⟨w5, hw5⟩ : ∃ x, wr.alloc (.cells #[.int .u64 id, .slice vA1 vn vc1, .int .u64 tg, .int .i64 lv, .slice LA1 ln lc1, .int .i64 nx, .int .i64 pv] 42) = x := ⟨_, rfl⟩
      have b5 : Below wr.heap.size wr w5 := by rw [← hw5]; exact (Below.refl _ wr).alloc (Nat.le_refl _) _
      have k5 : Blk w5 wr.heap.size 42 #[.int .u64 id, .slice vA1 vn vc1, .int .u64 tg, .int .i64 lv, .slice LA1 ln lc1, .int .i64 nx, .int .i64 pv] := by rw [← hw5]; exact Blk.new _ _ _
      have z5 : w5.heap.size = wr.heap.size + 1 := by rw [← hw5]; simp only [World.alloc, Array.size_push]
      have LP2 : (Instr.loadAt 42 (.pointer (some ⟨b2, o2 + j * 7, none⟩))).run Try.prog w5 = .ok (.agg #[.int .u64 id, .slice vA2 vn vc2, .int .u64 tg, .int .i64 lv, .slice LA2 ln lc2, .int .i64 nx, .int .i64 pv]) w5 := range_load (xs := #[.int .u64 id, .slice vA2 vn vc2, .int .u64 tg, .int .i64 lv, .slice LA2 ln lc2, .int .i64 nx, .int .i64 pv]) (rangeAt_keep hr2 fun i => b5.cell (p := ⟨b2, i, none⟩) (by show b2 < _; omega)) Try.underlying42 rfl nodeTU
      obtain ⟨w6, hw6⟩ : ∃ x, w5.alloc (.cells #[.int .u64 id, .slice vA2 vn vc2, .int .u64 tg, .int .i64 lv, .slice LA2 ln lc2, .int .i64 nx, .int .i64 pv] 42) = x := ⟨_, rfl⟩
      have b6 : Below w5.heap.size w5 w6 := by rw [← hw6]; exact (Below.refl _ w5).alloc (Nat.le_refl _) _
      have HA : Hid (Blk w6 wr.heap.size 42 #[.int .u64 id, .slice vA1 vn vc1, .int .u64 tg, .int .i64 lv, .slice LA1 ln lc1, .int .i64 nx, .int .i64 pv]) := k5.below b6 k5.lt
      have HBK : Hid (Blk w6 (wr.heap.size + 1) 42 #[.int .u64 id, .slice vA2 vn vc2, .int .u64 tg, .int .i64 lv, .slice LA2 ln lc2, .int .i64 nx, .int .i64 pv]) := by show Blk _ _ _ _; rw [← hw6, ← z5]; exact Blk.new _ _ _
      have HB6 : Hid (Below wr.heap.size wr w6) := b5.trans (b6.mono b5.size)
      have p0 : wr.cell? ⟨w.heap.size + 1, 0, none⟩ = some (.slice (some ⟨b2, o2, none⟩) n c') := (HK2.out.below hb.out HK2.out.lt).cell 0
      have p5 : w5.cell? ⟨w.heap.size + 1, 0, none⟩ = some (.slice (some ⟨b2, o2, none⟩) n c') := ((HK2.out.below hb.out HK2.out.lt).below b5 (Nat.lt_of_lt_of_le HK2.out.lt hb.out.size)).cell 0
      clear hr1 hr2 hd1 hd2 hat1 hat2 hls hb1 hb2 b5 k5 b6
      go_upto_region 6 with (refine wpList_loadT LP1 (by rfl) ?_)
      (try rw [hw5])
      clear hw5 LP1 p0
      go_upto_region 7 with (refine wpList_loadT LP2 (by rfl) ?_)
      (try rw [z5])
      (try rw [hw6])
      clear hw6 LP2 p5 z5
      have a0 : w6.cell? ⟨wr.heap.size, 0, none⟩ = some (.int .u64 id) := HA.out.cell 0
      have a1 : w6.cell? ⟨wr.heap.size, 1, none⟩ = some (.slice vA1 vn vc1) := HA.out.cell 1
      have a2 : w6.cell? ⟨wr.heap.size, 2, none⟩ = some (.int .u64 tg) := HA.out.cell 2
      have a3 : w6.cell? ⟨wr.heap.size, 3, none⟩ = some (.int .i64 lv) := HA.out.cell 3
      have a4 : w6.cell? ⟨wr.heap.size, 4, none⟩ = some (.slice LA1 ln lc1) := HA.out.cell 4
      have a5 : w6.cell? ⟨wr.heap.size, 5, none⟩ = some (.int .i64 nx) := HA.out.cell 5
      have a6 : w6.cell? ⟨wr.heap.size, 6, none⟩ = some (.int .i64 pv) := HA.out.cell 6
      have b0 : w6.cell? ⟨wr.heap.size + 1, 0, none⟩ = some (.int .u64 id) := HBK.out.cell 0
      have b1 : w6.cell? ⟨wr.heap.size + 1, 1, none⟩ = some (.slice vA2 vn vc2) := HBK.out.cell 1
      have b2 : w6.cell? ⟨wr.heap.size + 1, 2, none⟩ = some (.int .u64 tg) := HBK.out.cell 2
      have b3 : w6.cell? ⟨wr.heap.size + 1, 3, none⟩ = some (.int .i64 lv) := HBK.out.cell 3
      have b4 : w6.cell? ⟨wr.heap.size + 1, 4, none⟩ = some (.slice LA2 ln lc2) := HBK.out.cell 4
      have b5 : w6.cell? ⟨wr.heap.size + 1, 5, none⟩ = some (.int .i64 nx) := HBK.out.cell 5
      have b6 : w6.cell? ⟨wr.heap.size + 1, 6, none⟩ = some (.int .i64 pv) := HBK.out.cell 6
      have HSI := Lib.hid (same_item id tg vA1 vA2 vn vc1 vc2 vx w6 ((HAT1.out.1.2.2.1.below (HB6.out.mono hsz)).more (by have := HB6.out.size; omega)) (((HAT2.out.1.2.2.1.below (HB6.out.mono hsz)).more (by have := HB6.out.size; omega))) HAT1.out.1.2.1)
      have HSL := Lib.hid (fun W (hW : Below w6.heap.size w6 W) => same_lists LA1 LA2 ln ln lc1 lc2 ls1 ls2 W (rd_of_rs ((HAT1.out.2.2.2.1.below ((HB6.out.mono hsz).trans (hW.mono (Nat.le_trans hsz HB6.out.size)))).more (by have := HB6.out.size; have := hW.size; omega))) (rd_of_rs ((HAT2.out.2.2.2.1.below ((HB6.out.mono hsz).trans (hW.mono (Nat.le_trans hsz HB6.out.size)))).more (by have := HB6.out.size; have := hW.size; omega)))
        (fun l hl => ((HAT1.out.2.2.2.2.1 l hl).below ((HB6.out.mono hsz).trans (hW.mono (Nat.le_trans hsz HB6.out.size)))).more (by have := HB6.out.size; have := hW.size; omega)) (fun l hl => ((HAT2.out.2.2.2.2.1 l hl).below ((HB6.out.mono hsz).trans (hW.mono (Nat.le_trans hsz HB6.out.size)))).more (by have := HB6.out.size; have := hW.size; omega)) HLS.out HAT1.out.2.2.1)
      go_wp2_with (first
        | (go_at_call 33; (with_reducible refine HSI.out.mono ?_); rintro e w7 ⟨rfl, h7⟩; have HB7 := Lib.hid h7; clear h7 a4 b4; have a4 : w7.cell? ⟨wr.heap.size, 4, none⟩ = some (.slice LA1 ln lc1) := (HA.out.below HB7.out HA.out.lt).cell 4; have b4 : w7.cell? ⟨wr.heap.size + 1, 4, none⟩ = some (.slice LA2 ln lc2) := (HBK.out.below HB7.out HBK.out.lt).cell 4)
        | (go_at_call 34; (with_reducible refine (HSL.out _ HB7.out).mono ?_); rintro e w8 ⟨rfl, h8⟩; have HB8 := Lib.hid h8; clear h8))
      go_roundw
      case rel => exact ⟨j + 1, by omega, by go_num, hb.out.trans ((HB6.out.trans ((HB7.out.mono HB6.out.size).trans (HB8.out.mono (Nat.le_trans HB6.out.size HB7.out.size)))).mono hb.out.size)⟩
      case measure => simp [intOf]; omega
    · obtain rfl : j = n := by omega
      go_wp2_with fail
      go_ret
      exact ⟨rfl, HB.out.trans (hb.out.mono HB.out.size)⟩
def lv14 : List Int := putS [nd0] 2 0 0
def lvS : ByteArray := strOfNums lv14
theorem lvS_size : lvS.size = 14 := by decide +kernel
theorem lv_put : putE [nd0] 2 0 0 = 0 := by decide +kernel
theorem lv_put0 : putE [nd0] 0 0 0 = 6 ∧ putS [nd0] 0 0 0 = [] := by decide +kernel
theorem lv_putn : putE [] 1 0 0 = 7 ∧ putS [] 1 0 0 = [] := by decide +kernel
theorem lv_bytes : Bytes lv14 ∧ lv14.length ≤ 1000000 := by
  have h : lv14.all (fun x => decide (0 ≤ x ∧ x < 256)) = true ∧ lv14.length = 14 := by decide +kernel
  refine ⟨fun x hx => ?_, by omega⟩
  have := List.all_eq_true.1 h.1 x hx
  exact of_decide_eq_true this
theorem lv_read : readR lv14 = ⟨[nd0.norm], 0, 0, 2, 0⟩ := by kernel_rfl
theorem lv_read5 : readR [71, 78, 71, 49] = irE 8 := by kernel_rfl
theorem lv_read6 : readR [71, 78, 71, 50, 97, 97, 97, 97] = irE 7 := by kernel_rfl
theorem lv_read7 : readR [71, 78, 71, 49, 97, 97, 97, 97] = irE 14 := by kernel_rfl
theorem new41 (w : World) : Calls Try.prog 12 #[] w fun e w' => ∃ g n c, e = .returned (.agg #[.slice (some ⟨g, 0, none⟩) n c, .int .i64 0, .int .i64 0]) ∧ PgAt w' w'.heap.size (some ⟨g, 0, none⟩) n c [nd0] ∧ Below w.heap.size w w' := by
  refine (pl_new w).mono ?_
  rintro e w' ⟨g, n, c, ns, rfl, h1, rfl, h2⟩
  exact ⟨g, n, c, rfl, h1, h2⟩
theorem nd0_tags : ∀ d ∈ [nd0], (Lit.int .u64 d.tags).wf = true := by
  intro d hd
  rw [List.mem_singleton.1 hd]; rfl
theorem put41 {w : World} {g n c : Nat} (h : PgAt w w.heap.size (some ⟨g, 0, none⟩) n c [nd0]) : Calls Try.prog 7 #[.agg #[.slice (some ⟨g, 0, none⟩) n c, .int .i64 0, .int .i64 0], .int .i64 2] w fun e w' => e = .returned (.tuple #[.string lvS, .int .i64 0]) ∧ Below w.heap.size w w' := by
  have hc := im_put (some ⟨g, 0, none⟩) n c [nd0] 0 0 2 w h nd0_tags
  rw [lv_put] at hc
  exact hc
theorem put410 {w : World} {g n c : Nat} (h : PgAt w w.heap.size (some ⟨g, 0, none⟩) n c [nd0]) : Calls Try.prog 7 #[.agg #[.slice (some ⟨g, 0, none⟩) n c, .int .i64 0, .int .i64 0], .int .i64 0] w fun e w' => e = .returned (.tuple #[.string (strOfNums []), .int .i64 6]) ∧ Below w.heap.size w w' := by
  have hc := im_put (some ⟨g, 0, none⟩) n c [nd0] 0 0 0 w h nd0_tags
  rw [lv_put0.1, lv_put0.2] at hc
  exact hc
theorem put41n (w : World) : Calls Try.prog 7 #[.agg #[.slice none 0 0, .int .i64 0, .int .i64 0], .int .i64 1] w fun e w' => e = .returned (.tuple #[.string (strOfNums []), .int .i64 7]) ∧ Below w.heap.size w w' := by
  have hc := im_put none 0 0 [] 0 0 1 w (PgS.pgr (PgS.nil w (fun _ => False)) (fun _ h => h.elim)).1 (fun d hd => by cases hd)
  rw [lv_putn.1, lv_putn.2] at hc
  exact hc
theorem read41 (w : World) : Calls Try.prog 9 #[.string lvS] w fun e w' => ∃ A n c ds, e = .returned (.tuple #[.agg #[.slice A n c, .int .i64 0, .int .i64 0], .int .i64 2, .int .i64 0]) ∧ PgR w' w'.heap.size A n c ds ∧ ds.map ND.norm = [nd0].map ND.norm ∧ Below w.heap.size w w' := by
  have hc := im_read lv14 lv_bytes.1 lv_bytes.2 w
  rw [lv_read] at hc
  exact hc
theorem read41e {l : List Int} {y : Int} (hy : readR l = irE y) (hb : l.all (fun x => decide (0 ≤ x ∧ x < 256)) = true) (hl : l.length ≤ 8) (w : World) : Calls Try.prog 9 #[.string (strOfNums l)] w fun e w' => ∃ A n c, e = .returned (.tuple #[.agg #[.slice A n c, .int .i64 0, .int .i64 0], .int .i64 0, .int .i64 y]) ∧ Below w.heap.size w w' := by
  have hc := im_read l (fun x hx => of_decide_eq_true (List.all_eq_true.1 hb x hx)) (by omega) w
  rw [hy] at hc
  refine hc.mono ?_
  rintro e w' ⟨A, n, c, ds, rfl, _, _, h⟩
  exact ⟨A, n, c, rfl, h⟩
theorem s5 : strOfNums [71, 78, 71, 49] = { data := #[71, 78, 71, 49] } := rfl
theorem s6 : strOfNums [71, 78, 71, 50, 97, 97, 97, 97] = { data := #[71, 78, 71, 50, 97, 97, 97, 97] } := rfl
theorem s7 : strOfNums [71, 78, 71, 49, 97, 97, 97, 97] = { data := #[71, 78, 71, 49, 97, 97, 97, 97] } := rfl
set_option maxRecDepth 100000 in
set_option maxHeartbeats 4000000 in
theorem lives41 (w : World) : Calls Try.prog 6 #[] w (RetB true w) := by
  have R5 := Lib.hid (fun W => read41e lv_read5 (by decide +kernel) (by decide) W)
  have R6 := Lib.hid (fun W => read41e lv_read6 (by decide +kernel) (by decide) W)
  have R7 := Lib.hid (fun W => read41e lv_read7 (by decide +kernel) (by decide) W)
  rw [s5] at R5
  rw [s6] at R6
  rw [s7] at R7
  go_enter Try.func6, Try.ntmps6
  go_upto_region 2 with (first
    | (go_at_call 12; (with_reducible refine (new41 w).mono ?_); rintro e w1 ⟨g1, n1, c1, rfl, hp1, hb1⟩; have HP1 := Lib.hid hp1; have HB1 := Lib.hid hb1; clear hp1 hb1)
    | (go_at_call 7; (with_reducible refine (put41 HP1.out).mono ?_); rintro e w2 ⟨rfl, hb2⟩; have HB2 := Lib.hid (HB1.out.trans (hb2.mono HB1.out.size)); clear hb2))
  clear HP1 HB1
  go_upto_region 3 with (go_at_call 9; (with_reducible refine (read41 w2).mono ?_); rintro e w3 ⟨A, n, c, ds, rfl, hp3, hd3, hb3⟩; have HP3 := Lib.hid hp3; have HD := Lib.hid hd3; have HB3 := Lib.hid (HB2.out.trans (hb3.mono HB2.out.size)); clear hp3 hd3 hb3)
  obtain ⟨w4, hw4⟩ : ∃ x, w3.alloc (.cells #[.slice A n c, .int .i64 0, .int .i64 0] 24) = x := ⟨_, rfl⟩
  have b4 : Below w3.heap.size w3 w4 := by rw [← hw4]; exact (Below.refl _ w3).alloc (Nat.le_refl _) _
  have k4 : Blk w4 w3.heap.size 24 #[.slice A n c, .int .i64 0, .int .i64 0] := by rw [← hw4]; exact Blk.new _ _ _
  have HP4 := Lib.hid ((HP3.out.below b4).more b4.size)
  have HB4 := Lib.hid (HB3.out.trans (b4.mono HB3.out.size))
  have HK4 := Lib.hid k4
  obtain ⟨G, hG⟩ : ∃ x, w3.heap.size = x := ⟨_, rfl⟩
  rw [hG] at HK4
  (try rw [hw4])
  (try rw [hG])
  clear hw4 b4 k4 hG HP3 HB3 HB2
  go_upto_region 4 with (first
    | (go_at_call 12; (with_reducible refine (new41 w4).mono ?_); rintro e w5 ⟨g5, n5, c5, rfl, hp5, hb5⟩; have HP5 := Lib.hid hp5; have HX5 := Lib.hid hb5; clear hp5 hb5)
    | (go_at_call 7; (with_reducible refine (put410 HP5.out).mono ?_); rintro e w6 ⟨rfl, hb6⟩; have HX6 := Lib.hid (HX5.out.trans (hb6.mono HX5.out.size)); clear hb6))
  clear HP5 HX5
  go_upto_region 5 with (go_at_call 7; (with_reducible refine (put41n w6).mono ?_); rintro e w7 ⟨rfl, hb7⟩; have HX7 := Lib.hid (HX6.out.trans (hb7.mono HX6.out.size)); clear hb7)
  clear HX6
  go_upto_region 6 with (go_at_call 9; (with_reducible refine (R5.out w7).mono ?_); rintro e w8 ⟨A8, n8, c8, rfl, hb8⟩; have HX8 := Lib.hid (HX7.out.trans (hb8.mono HX7.out.size)); clear hb8)
  clear HX7
  obtain ⟨w9, hw9⟩ : ∃ x, w8.alloc (.cells #[.slice A8 n8 c8, .int .i64 0, .int .i64 0] 24) = x := ⟨_, rfl⟩
  have HX9 : Hid (Below w4.heap.size w4 w9) := by show Below _ _ _; rw [← hw9]; exact HX8.out.alloc HX8.out.size _
  (try rw [hw9])
  clear hw9 HX8
  go_upto_region 7 with (go_at_call 9; (with_reducible refine (R6.out w9).mono ?_); rintro e w10 ⟨A10, n10, c10, rfl, hb10⟩; have HX10 := Lib.hid (HX9.out.trans (hb10.mono HX9.out.size)); clear hb10)
  clear HX9
  obtain ⟨w11, hw11⟩ : ∃ x, w10.alloc (.cells #[.slice A10 n10 c10, .int .i64 0, .int .i64 0] 24) = x := ⟨_, rfl⟩
  have HX11 : Hid (Below w4.heap.size w4 w11) := by show Below _ _ _; rw [← hw11]; exact HX10.out.alloc HX10.out.size _
  (try rw [hw11])
  clear hw11 HX10
  go_upto_region 8 with (go_at_call 9; (with_reducible refine (R7.out w11).mono ?_); rintro e w12 ⟨A12, n12, c12, rfl, hb12⟩; have HX12 := Lib.hid (HX11.out.trans (hb12.mono HX11.out.size)); clear hb12)
  clear HX11
  obtain ⟨w13, hw13⟩ : ∃ x, w12.alloc (.cells #[.slice A12 n12 c12, .int .i64 0, .int .i64 0] 24) = x := ⟨_, rfl⟩
  have HX13 : Hid (Below w4.heap.size w4 w13) := by show Below _ _ _; rw [← hw13]; exact HX12.out.alloc HX12.out.size _
  (try rw [hw13])
  clear hw13 HX12
  have HP13 := Lib.hid ((HP4.out.below HX13.out).more HX13.out.size)
  have HK13 := Lib.hid (HK4.out.below HX13.out HK4.out.lt)
  have HB13 := Lib.hid (HB4.out.trans (HX13.out.mono HB4.out.size))
  clear HP4 HK4 HB4 HX13
  refine wp_region_held_drew (S := fun V => Below w13.heap.size w13 V) (by kernel_rfl) (below_drewN (Below.refl _ w13) 1) (fun hH => ?_)
  obtain ⟨W, hW⟩ : ∃ x, w13.drew = x := ⟨_, rfl⟩
  rw [hW] at hH ⊢
  clear hW
  refine wpAnyH_take (i := 0) (v := .string lvS) rfl (by kernel_rfl) (by kernel_rfl) (by kernel_rfl) (fun _ _ _ h => h) (.inl ⟨by rfl, fun _ _ => by kernel_rfl⟩) hH ?_
  (try simp only [List.getElem_toArray, List.getElem_cons_zero, Act.put, List.setIfInBounds_toArray, List.set_cons_zero, List.set_cons_succ])
  refine wpAnyH_take (i := 1) (v := .int .i64 (lvS.size : Nat)) rfl (by kernel_rfl) (by kernel_rfl) (by kernel_rfl) (fun _ _ _ h => h) (.inl ⟨by rfl, fun _ _ => by kernel_rfl⟩) hH ?_
  (try simp only [List.getElem_toArray, List.getElem_cons_zero, List.getElem_cons_succ, Act.put, List.setIfInBounds_toArray, List.set_cons_zero, List.set_cons_succ])
  rw [lvS_size]
  refine wpAnyH_take (i := 2) (v := .bool true) rfl (by kernel_rfl) (by kernel_rfl) (by kernel_rfl) (fun _ _ _ h => h) (.inl ⟨by rfl, fun _ _ => by kernel_rfl⟩) hH ?_
  (try simp only [List.getElem_toArray, List.getElem_cons_zero, List.getElem_cons_succ, Act.put, List.setIfInBounds_toArray, List.set_cons_zero, List.set_cons_succ])
  refine wpAnyH_take (i := 3) (v := .bool true) rfl (by kernel_rfl) (by kernel_rfl) (by kernel_rfl) (fun _ _ _ h => h) (.inl ⟨by rfl, fun _ _ => by kernel_rfl⟩) hH ?_
  (try simp only [List.getElem_toArray, List.getElem_cons_zero, List.getElem_cons_succ, Act.put, List.setIfInBounds_toArray, List.set_cons_zero, List.set_cons_succ])
  refine wpAnyH_take (i := 4) (v := .int .i64 0) rfl (by kernel_rfl) (by kernel_rfl) (by kernel_rfl) (fun _ _ _ h => h) (.inl ⟨by rfl, fun _ _ => by kernel_rfl⟩) hH ?_
  (try simp only [List.getElem_toArray, List.getElem_cons_zero, List.getElem_cons_succ, Act.put, List.setIfInBounds_toArray, List.set_cons_zero, List.set_cons_succ])
  refine wpAnyH_take (i := 5) (v := .bool true) rfl (by kernel_rfl) (by kernel_rfl) (by kernel_rfl) (fun _ _ _ h => h) (.inl ⟨by rfl, fun _ _ => by kernel_rfl⟩) hH ?_
  (try simp only [List.getElem_toArray, List.getElem_cons_zero, List.getElem_cons_succ, Act.put, List.setIfInBounds_toArray, List.set_cons_zero, List.set_cons_succ])
  refine wpAnyH_take (i := 6) (v := .bool true) rfl (by kernel_rfl) (by kernel_rfl) (by kernel_rfl) (fun _ _ _ h => h) (.inl ⟨by rfl, fun _ _ => by kernel_rfl⟩) hH ?_
  (try simp only [List.getElem_toArray, List.getElem_cons_zero, List.getElem_cons_succ, Act.put, List.setIfInBounds_toArray, List.set_cons_zero, List.set_cons_succ])
  refine wpAnyH_take (i := 7) (v := .bool true) rfl (by kernel_rfl) (by kernel_rfl) (by kernel_rfl) (fun _ _ _ h => h) (.inl ⟨by rfl, fun _ _ => by kernel_rfl⟩) hH ?_
  (try simp only [List.getElem_toArray, List.getElem_cons_zero, List.getElem_cons_succ, Act.put, List.setIfInBounds_toArray, List.set_cons_zero, List.set_cons_succ])
  refine wpAnyH_take (i := 8) (v := .agg #[.slice A n c, .int .i64 0, .int .i64 0]) rfl (by kernel_rfl) (by kernel_rfl) (by kernel_rfl) (fun _ _ _ h => h) (yieldsIf_loadP (by rfl) _ rfl rfl (fun _ q => plane_loadL (HK13.out.below q HK13.out.lt))) hH ?_
  (try simp only [List.getElem_toArray, List.getElem_cons_zero, List.getElem_cons_succ, Act.put, List.setIfInBounds_toArray, List.set_cons_zero, List.set_cons_succ])
  refine wpAnyH_call 9 12 #[] _ (by kernel_rfl) (by rfl) (by kernel_rfl) (by kernel_rfl) (new41 W) ?_
  rintro e V1 ⟨g9, n9, c9, rfl, hp9, hb9⟩
  have h1 := hH.trans (hb9.mono hH.size)
  refine ⟨_, rfl, h1, ?_⟩
  (try simp only [List.getElem_toArray, List.getElem_cons_zero, List.getElem_cons_succ, Act.put, List.setIfInBounds_toArray, List.set_cons_zero, List.set_cons_succ])
  refine wpAnyH_call 10 11 #[.agg #[.slice A n c, .int .i64 0, .int .i64 0], .agg #[.slice (some ⟨g9, 0, none⟩) n9 c9, .int .i64 0, .int .i64 0]] _ (by kernel_rfl) (by rfl) (by kernel_rfl) (by kernel_rfl) (same_pl A (some ⟨g9, 0, none⟩) n n9 c c9 ds [nd0] 0 0 V1 ((HP13.out.1.below h1).more h1.size) hp9 HD.out) ?_
  rintro e V2 ⟨rfl, hb10⟩
  have h2 := h1.trans (hb10.mono h1.size)
  refine ⟨_, rfl, h2, ?_⟩
  (try simp only [List.getElem_toArray, List.getElem_cons_zero, List.getElem_cons_succ, Act.put, List.setIfInBounds_toArray, List.set_cons_zero, List.set_cons_succ])
  clear hH h1 hb9 hb10 hp9
  refine wpAnyH_take (i := 11) (v := .bool true) rfl (by kernel_rfl) (by kernel_rfl) (by kernel_rfl) (fun _ _ _ h => h) (.inl ⟨by rfl, fun _ _ => by kernel_rfl⟩) h2 ?_
  (try simp only [List.getElem_toArray, List.getElem_cons_zero, List.getElem_cons_succ, Act.put, List.setIfInBounds_toArray, List.set_cons_zero, List.set_cons_succ])
  refine wpAnyH_take (i := 12) (v := .bool true) rfl (by kernel_rfl) (by kernel_rfl) (by kernel_rfl) (fun _ _ _ h => h) (.inl ⟨by rfl, fun _ _ => by kernel_rfl⟩) h2 ?_
  (try simp only [List.getElem_toArray, List.getElem_cons_zero, List.getElem_cons_succ, Act.put, List.setIfInBounds_toArray, List.set_cons_zero, List.set_cons_succ])
  refine wpAnyH_take (i := 13) (v := .int .i64 2) rfl (by kernel_rfl) (by kernel_rfl) (by kernel_rfl) (fun _ _ _ h => h) (.inl ⟨by rfl, fun _ _ => by kernel_rfl⟩) h2 ?_
  (try simp only [List.getElem_toArray, List.getElem_cons_zero, List.getElem_cons_succ, Act.put, List.setIfInBounds_toArray, List.set_cons_zero, List.set_cons_succ])
  refine wpAnyH_take (i := 14) (v := .bool true) rfl (by kernel_rfl) (by kernel_rfl) (by kernel_rfl) (fun _ _ _ h => h) (.inl ⟨by rfl, fun _ _ => by kernel_rfl⟩) h2 ?_
  (try simp only [List.getElem_toArray, List.getElem_cons_zero, List.getElem_cons_succ, Act.put, List.setIfInBounds_toArray, List.set_cons_zero, List.set_cons_succ])
  refine wpAnyH_take (i := 15) (v := .bool true) rfl (by kernel_rfl) (by kernel_rfl) (by kernel_rfl) (fun _ _ _ h => h) (.inl ⟨by rfl, fun _ _ => by kernel_rfl⟩) h2 ?_
  (try simp only [List.getElem_toArray, List.getElem_cons_zero, List.getElem_cons_succ, Act.put, List.setIfInBounds_toArray, List.set_cons_zero, List.set_cons_succ])
  refine wpAnyH_take (i := 16) (v := .bool true) rfl (by kernel_rfl) (by kernel_rfl) (by kernel_rfl) (fun _ _ _ h => h) (.inl ⟨by rfl, fun _ _ => by kernel_rfl⟩) h2 ?_
  (try simp only [List.getElem_toArray, List.getElem_cons_zero, List.getElem_cons_succ, Act.put, List.setIfInBounds_toArray, List.set_cons_zero, List.set_cons_succ])
  refine wpAnyH_take (i := 17) (v := .int .i64 0) rfl (by kernel_rfl) (by kernel_rfl) (by kernel_rfl) (fun _ _ _ h => h) (.inl ⟨by rfl, fun _ _ => by kernel_rfl⟩) h2 ?_
  (try simp only [List.getElem_toArray, List.getElem_cons_zero, List.getElem_cons_succ, Act.put, List.setIfInBounds_toArray, List.set_cons_zero, List.set_cons_succ])
  refine wpAnyH_take (i := 18) (v := .bool true) rfl (by kernel_rfl) (by kernel_rfl) (by kernel_rfl) (fun _ _ _ h => h) (.inl ⟨by rfl, fun _ _ => by kernel_rfl⟩) h2 ?_
  (try simp only [List.getElem_toArray, List.getElem_cons_zero, List.getElem_cons_succ, Act.put, List.setIfInBounds_toArray, List.set_cons_zero, List.set_cons_succ])
  refine wpAnyH_take (i := 19) (v := .bool true) rfl (by kernel_rfl) (by kernel_rfl) (by kernel_rfl) (fun _ _ _ h => h) (.inl ⟨by rfl, fun _ _ => by kernel_rfl⟩) h2 ?_
  (try simp only [List.getElem_toArray, List.getElem_cons_zero, List.getElem_cons_succ, Act.put, List.setIfInBounds_toArray, List.set_cons_zero, List.set_cons_succ])
  refine wpAnyH_take (i := 20) (v := .bool true) rfl (by kernel_rfl) (by kernel_rfl) (by kernel_rfl) (fun _ _ _ h => h) (.inl ⟨by rfl, fun _ _ => by kernel_rfl⟩) h2 ?_
  (try simp only [List.getElem_toArray, List.getElem_cons_zero, List.getElem_cons_succ, Act.put, List.setIfInBounds_toArray, List.set_cons_zero, List.set_cons_succ])
  refine wpAnyH_take (i := 21) (v := .int .i64 6) rfl (by kernel_rfl) (by kernel_rfl) (by kernel_rfl) (fun _ _ _ h => h) (.inl ⟨by rfl, fun _ _ => by kernel_rfl⟩) h2 ?_
  (try simp only [List.getElem_toArray, List.getElem_cons_zero, List.getElem_cons_succ, Act.put, List.setIfInBounds_toArray, List.set_cons_zero, List.set_cons_succ])
  refine wpAnyH_take (i := 22) (v := .bool true) rfl (by kernel_rfl) (by kernel_rfl) (by kernel_rfl) (fun _ _ _ h => h) (.inl ⟨by rfl, fun _ _ => by kernel_rfl⟩) h2 ?_
  (try simp only [List.getElem_toArray, List.getElem_cons_zero, List.getElem_cons_succ, Act.put, List.setIfInBounds_toArray, List.set_cons_zero, List.set_cons_succ])
  refine wpAnyH_take (i := 23) (v := .bool true) rfl (by kernel_rfl) (by kernel_rfl) (by kernel_rfl) (fun _ _ _ h => h) (.inl ⟨by rfl, fun _ _ => by kernel_rfl⟩) h2 ?_
  (try simp only [List.getElem_toArray, List.getElem_cons_zero, List.getElem_cons_succ, Act.put, List.setIfInBounds_toArray, List.set_cons_zero, List.set_cons_succ])
  refine wpAnyH_take (i := 24) (v := .bool true) rfl (by kernel_rfl) (by kernel_rfl) (by kernel_rfl) (fun _ _ _ h => h) (.inl ⟨by rfl, fun _ _ => by kernel_rfl⟩) h2 ?_
  (try simp only [List.getElem_toArray, List.getElem_cons_zero, List.getElem_cons_succ, Act.put, List.setIfInBounds_toArray, List.set_cons_zero, List.set_cons_succ])
  refine wpAnyH_take (i := 25) (v := .int .i64 7) rfl (by kernel_rfl) (by kernel_rfl) (by kernel_rfl) (fun _ _ _ h => h) (.inl ⟨by rfl, fun _ _ => by kernel_rfl⟩) h2 ?_
  (try simp only [List.getElem_toArray, List.getElem_cons_zero, List.getElem_cons_succ, Act.put, List.setIfInBounds_toArray, List.set_cons_zero, List.set_cons_succ])
  refine wpAnyH_take (i := 26) (v := .bool true) rfl (by kernel_rfl) (by kernel_rfl) (by kernel_rfl) (fun _ _ _ h => h) (.inl ⟨by rfl, fun _ _ => by kernel_rfl⟩) h2 ?_
  (try simp only [List.getElem_toArray, List.getElem_cons_zero, List.getElem_cons_succ, Act.put, List.setIfInBounds_toArray, List.set_cons_zero, List.set_cons_succ])
  refine wpAnyH_take (i := 27) (v := .bool true) rfl (by kernel_rfl) (by kernel_rfl) (by kernel_rfl) (fun _ _ _ h => h) (.inl ⟨by rfl, fun _ _ => by kernel_rfl⟩) h2 ?_
  (try simp only [List.getElem_toArray, List.getElem_cons_zero, List.getElem_cons_succ, Act.put, List.setIfInBounds_toArray, List.set_cons_zero, List.set_cons_succ])
  refine wpAnyH_take (i := 28) (v := .bool true) rfl (by kernel_rfl) (by kernel_rfl) (by kernel_rfl) (fun _ _ _ h => h) (.inl ⟨by rfl, fun _ _ => by kernel_rfl⟩) h2 ?_
  (try simp only [List.getElem_toArray, List.getElem_cons_zero, List.getElem_cons_succ, Act.put, List.setIfInBounds_toArray, List.set_cons_zero, List.set_cons_succ])
  refine wpAnyH_take (i := 29) (v := .int .i64 8) rfl (by kernel_rfl) (by kernel_rfl) (by kernel_rfl) (fun _ _ _ h => h) (.inl ⟨by rfl, fun _ _ => by kernel_rfl⟩) h2 ?_
  (try simp only [List.getElem_toArray, List.getElem_cons_zero, List.getElem_cons_succ, Act.put, List.setIfInBounds_toArray, List.set_cons_zero, List.set_cons_succ])
  refine wpAnyH_take (i := 30) (v := .bool true) rfl (by kernel_rfl) (by kernel_rfl) (by kernel_rfl) (fun _ _ _ h => h) (.inl ⟨by rfl, fun _ _ => by kernel_rfl⟩) h2 ?_
  (try simp only [List.getElem_toArray, List.getElem_cons_zero, List.getElem_cons_succ, Act.put, List.setIfInBounds_toArray, List.set_cons_zero, List.set_cons_succ])
  refine wpAnyH_take (i := 31) (v := .bool true) rfl (by kernel_rfl) (by kernel_rfl) (by kernel_rfl) (fun _ _ _ h => h) (.inl ⟨by rfl, fun _ _ => by kernel_rfl⟩) h2 ?_
  (try simp only [List.getElem_toArray, List.getElem_cons_zero, List.getElem_cons_succ, Act.put, List.setIfInBounds_toArray, List.set_cons_zero, List.set_cons_succ])
  refine wpAnyH_take (i := 32) (v := .bool true) rfl (by kernel_rfl) (by kernel_rfl) (by kernel_rfl) (fun _ _ _ h => h) (.inl ⟨by rfl, fun _ _ => by kernel_rfl⟩) h2 ?_
  (try simp only [List.getElem_toArray, List.getElem_cons_zero, List.getElem_cons_succ, Act.put, List.setIfInBounds_toArray, List.set_cons_zero, List.set_cons_succ])
  refine wpAnyH_take (i := 33) (v := .int .i64 7) rfl (by kernel_rfl) (by kernel_rfl) (by kernel_rfl) (fun _ _ _ h => h) (.inl ⟨by rfl, fun _ _ => by kernel_rfl⟩) h2 ?_
  (try simp only [List.getElem_toArray, List.getElem_cons_zero, List.getElem_cons_succ, Act.put, List.setIfInBounds_toArray, List.set_cons_zero, List.set_cons_succ])
  refine wpAnyH_take (i := 34) (v := .bool true) rfl (by kernel_rfl) (by kernel_rfl) (by kernel_rfl) (fun _ _ _ h => h) (.inl ⟨by rfl, fun _ _ => by kernel_rfl⟩) h2 ?_
  (try simp only [List.getElem_toArray, List.getElem_cons_zero, List.getElem_cons_succ, Act.put, List.setIfInBounds_toArray, List.set_cons_zero, List.set_cons_succ])
  refine wpAnyH_take (i := 35) (v := .bool true) rfl (by kernel_rfl) (by kernel_rfl) (by kernel_rfl) (fun _ _ _ h => h) (.inl ⟨by rfl, fun _ _ => by kernel_rfl⟩) h2 ?_
  (try simp only [List.getElem_toArray, List.getElem_cons_zero, List.getElem_cons_succ, Act.put, List.setIfInBounds_toArray, List.set_cons_zero, List.set_cons_succ])
  refine wpAnyH_take (i := 36) (v := .bool true) rfl (by kernel_rfl) (by kernel_rfl) (by kernel_rfl) (fun _ _ _ h => h) (.inl ⟨by rfl, fun _ _ => by kernel_rfl⟩) h2 ?_
  (try simp only [List.getElem_toArray, List.getElem_cons_zero, List.getElem_cons_succ, Act.put, List.setIfInBounds_toArray, List.set_cons_zero, List.set_cons_succ])
  refine wpAnyH_take (i := 37) (v := .int .i64 14) rfl (by kernel_rfl) (by kernel_rfl) (by kernel_rfl) (fun _ _ _ h => h) (.inl ⟨by rfl, fun _ _ => by kernel_rfl⟩) h2 ?_
  (try simp only [List.getElem_toArray, List.getElem_cons_zero, List.getElem_cons_succ, Act.put, List.setIfInBounds_toArray, List.set_cons_zero, List.set_cons_succ])
  refine wpAnyH_take (i := 38) (v := .bool true) rfl (by kernel_rfl) (by kernel_rfl) (by kernel_rfl) (fun _ _ _ h => h) (.inl ⟨by rfl, fun _ _ => by kernel_rfl⟩) h2 ?_
  (try simp only [List.getElem_toArray, List.getElem_cons_zero, List.getElem_cons_succ, Act.put, List.setIfInBounds_toArray, List.set_cons_zero, List.set_cons_succ])
  refine wpAnyH_take (i := 39) (v := .bool true) rfl (by kernel_rfl) (by kernel_rfl) (by kernel_rfl) (fun _ _ _ h => h) (.inl ⟨by rfl, fun _ _ => by kernel_rfl⟩) h2 ?_
  (try simp only [List.getElem_toArray, List.getElem_cons_zero, List.getElem_cons_succ, Act.put, List.setIfInBounds_toArray, List.set_cons_zero, List.set_cons_succ])
  refine wpAnyH_take (i := 40) (v := .bool true) rfl (by kernel_rfl) (by kernel_rfl) (by kernel_rfl) (fun _ _ _ h => h) (.inl ⟨by rfl, fun _ _ => by kernel_rfl⟩) h2 ?_
  (try simp only [List.getElem_toArray, List.getElem_cons_zero, List.getElem_cons_succ, Act.put, List.setIfInBounds_toArray, List.set_cons_zero])
  refine wpAnyH_done (by kernel_rfl) ?_ _
  have HE := Lib.hid h2
  clear h2
  go_wp2_with fail
  go_ret
  exact ⟨rfl, HB13.out.trans (HE.out.mono HB13.out.size)⟩
theorem wpList_loadTG {P : Program} {ops : Array Oper} {rest : List Oper} {d : Option Tmp} {i : Tmp} {ty t : TypeId} {s : String} {af : Array Edge} {g : Option (Nat × Bool)} {a : Act} {w : World} {Q : Exit → Act → World → Prop} {p v : Value} (hr : (Instr.loadAt ty p).run P w = .ok v w)
    (hw : Region.wanted ⟨d, .load ty (.tmp i), t, s, af, g⟩ (yielded ops a.tmps) = true) (hx : a.eval (.tmp i) = p) (h : wpList P ops Q rest (a.put d v) w) : wpList P ops Q (⟨d, .load ty (.tmp i), t, s, af, g⟩ :: rest) a w :=
  wpList_loadG hr (.tmp i) hw rfl hx h
theorem lenS {s : ByteArray} (h : s.size ≤ 3000) : (bytesOf s).length ≤ 1000000 := by
  rw [size_of]; omega
set_option maxRecDepth 100000 in
set_option maxHeartbeats 8000000 in
theorem tells41 (A : Option Addr) (n c : Nat) (ns : List ND) (en tp links : Int) (s : ByteArray) (W : World) (hg : PgRaw W W.heap.size A n c ns) (ht : ∀ d ∈ ns, (Lit.int .u64 d.tags).wf = true) :
    Calls Try.prog 3 #[.agg (pgL A n c en tp), .int .i64 links, .string s] W (RetB true W) := by
  obtain ⟨w1, hw1⟩ : ∃ x, W.alloc (.cells #[.slice A n c, .int .i64 en, .int .i64 tp] 24) = x := ⟨_, rfl⟩
  obtain ⟨k1, b1⟩ := box_planeM hw1
  have HRW := Lib.hid ((hg.below b1).more b1.size)
  have HT := Lib.hid ht
  have HK := Lib.hid k1
  have HB := Lib.hid b1
  have LP1 := plane_loadM k1
  have HSM := Lib.hid (small12 A n c ns en tp w1 HRW.out)
  unfold pgL at LP1 HSM ⊢
  clear hg ht k1 b1
  cases hsb : smB ns with
  | false =>
    rw [hsb] at HSM
    have h0 : smI false = 0 := rfl
    rw [h0] at HSM
    clear h0 hsb
    go_enter Try.func3, Try.ntmps3
    go_upto_region 1 with fail
    (try rw [hw1])
    clear hw1
    go_wp2_with (first
      | refine wpList_loadT LP1 (by rfl) ?_
      | (go_at_call 5; (with_reducible refine HSM.out.mono ?_); rintro e w2 ⟨rfl, h2⟩; have HB2 := Lib.hid h2; clear h2)
      | (go_at_call 6; (with_reducible refine (lives41 _).mono ?_); rintro e w3 ⟨rfl, h3⟩; have HB3 := Lib.hid h3; clear h3))
    go_ret
    exact ⟨rfl, (HB.out.trans (HB2.out.mono HB.out.size)).trans (HB3.out.mono (Nat.le_trans HB.out.size HB2.out.size))⟩
  | true =>
    have HG := Lib.hid (HRW.out.at_ hsb)
    rw [hsb] at HSM
    have h0 : smI true = 1 := rfl
    rw [h0] at HSM
    clear h0 hsb
    by_cases h3 : s.size ≤ 3000
    · have h3i : ¬ ((s.size : Int) > 3000) := by omega
      obtain ⟨l, hl⟩ : ∃ l, bytesOf s = l := ⟨_, rfl⟩
      have hsl : strOfNums l = s := by rw [← hl]; exact str_of s
      have hbl : Bytes l := by rw [← hl]; exact bytes_of s
      have hll : l.length ≤ 1000000 := by rw [← hl]; exact lenS h3
      have HRD := Lib.hid (fun V => im_read l hbl hll V)
      have HRF := Lib.hid (fun V => rf_read l hbl hll V)
      rw [hsl] at HRD HRF
      obtain ⟨⟨rns, ren, rtp, rlk, rer⟩, hr⟩ : ∃ r, readR l = r := ⟨_, rfl⟩
      rw [hr] at HRD HRF
      obtain ⟨S, hS⟩ : ∃ x, putS ns links en tp = x := ⟨_, rfl⟩
      obtain ⟨E, hE⟩ : ∃ x, putE ns links en tp = x := ⟨_, rfl⟩
      have HP1 := Lib.hid (fun V (hV : Below w1.heap.size w1 V) => im_put A n c ns en tp links V ((HG.out.below hV).more hV.size) HT.out)
      have HP2 := Lib.hid (fun V (hV : Below w1.heap.size w1 V) => rf_put A n c ns en tp links V ((HG.out.below hV).more hV.size) HT.out)
      rw [hS, hE] at HP1 HP2
      unfold pgL at HP1 HP2
      clear hS hE hr hsl hbl hll hl h3 HRW HT
      go_enter Try.func3, Try.ntmps3
      go_upto_region 1 with fail
      (try rw [hw1])
      clear hw1
      go_upto_region 3 with (first
        | refine wpList_loadT LP1 (by rfl) ?_
        | (go_at_call 5; (with_reducible refine HSM.out.mono ?_); rintro e w2 ⟨rfl, h2⟩; have HB2 := Lib.hid h2; clear h2))
      clear LP1 HSM
      have LP2 := plane_loadM (HK.out.below HB2.out HK.out.lt)
      unfold pgL at LP2
      go_upto_region 4 with (first
        | refine wpList_loadT LP2 (by rfl) ?_
        | (go_at_call 7; (with_reducible refine (HP1.out w2 HB2.out).mono ?_); rintro e w3 ⟨rfl, h3⟩; have HB3 := Lib.hid (HB2.out.trans (h3.mono HB2.out.size)); clear h3))
      clear LP2
      have LP3 := plane_loadM (HK.out.below HB3.out HK.out.lt)
      unfold pgL at LP3
      go_upto_region 5 with (first
        | refine wpList_loadT LP3 (by rfl) ?_
        | (go_at_call 8; (with_reducible refine (HP2.out w3 HB3.out).mono ?_); rintro e w4 ⟨rfl, h4⟩; have HB4 := Lib.hid (HB3.out.trans (h4.mono HB3.out.size)); clear h4))
      clear LP3 HP1 HP2 HB2 HB3
      go_upto_region 6 with (go_at_call 9; (with_reducible refine (HRD.out w4).mono ?_); rintro e w5 ⟨A5, n5, c5, ds5, he, hp, hd, hb⟩; obtain rfl : e = .returned (.tuple #[.agg #[.slice A5 n5 c5, .int .i64 ren, .int .i64 rtp], .int .i64 rlk, .int .i64 rer]) := he; have HP5 := Lib.hid hp; have HD5 := Lib.hid hd; have HB5 := Lib.hid (HB4.out.trans (hb.mono HB4.out.size)); clear hp hd hb)
      obtain ⟨x5, hx5⟩ : ∃ x, w5.alloc (.cells #[.slice A5 n5 c5, .int .i64 ren, .int .i64 rtp] 24) = x := ⟨_, rfl⟩
      obtain ⟨k5, b5⟩ := box_planeM hx5
      have HK5 := Lib.hid k5
      have HPX := Lib.hid ((HP5.out.below b5).more b5.size)
      have HBX := Lib.hid (HB5.out.trans (b5.mono HB5.out.size))
      obtain ⟨G5, hG5⟩ : ∃ x, w5.heap.size = x := ⟨_, rfl⟩
      rw [hG5] at HK5
      (try rw [hx5])
      (try rw [hG5])
      clear hx5 hG5 k5 b5 HP5 HB5 HB4 HRD
      go_upto_region 7 with (go_at_call 10; (with_reducible refine (HRF.out x5).mono ?_); rintro e w6 ⟨A6, n6, c6, ds6, he, hp, hd, hb⟩; obtain rfl : e = .returned (.tuple #[.agg #[.slice A6 n6 c6, .int .i64 ren, .int .i64 rtp], .int .i64 rlk, .int .i64 rer]) := he; have HP6 := Lib.hid hp; have HD6 := Lib.hid hd; have HB6 := Lib.hid (HBX.out.trans (hb.mono HBX.out.size)); have HC6 := Lib.hid hb; clear hp hd hb)
      obtain ⟨x6, hx6⟩ : ∃ x, w6.alloc (.cells #[.slice A6 n6 c6, .int .i64 ren, .int .i64 rtp] 24) = x := ⟨_, rfl⟩
      obtain ⟨k6, b6⟩ := box_planeM hx6
      have HK6 := Lib.hid k6
      have HQ6 := Lib.hid ((HP6.out.below b6).more b6.size)
      have HQ5 := Lib.hid (HPX.out.1)
      have HB6x := Lib.hid (HB6.out.trans (b6.mono HB6.out.size))
      obtain ⟨G6, hG6⟩ : ∃ x, w6.heap.size = x := ⟨_, rfl⟩
      rw [hG6] at HK6
      (try rw [hx6])
      (try rw [hG6])
      have HC56 := Lib.hid (HC6.out.trans (b6.mono HC6.out.size))
      have HK56 := Lib.hid (HK5.out.below HC56.out HK5.out.lt)
      have HP56 := Lib.hid ((HPX.out.1.below HC56.out).more HC56.out.size)
      have HEQ : Hid (ds5.map ND.norm = ds6.map ND.norm) := HD5.out.trans HD6.out.symm
      clear hx6 hG6 k6 b6 HP6 HB6 HPX HBX HRF HC6 HQ5 HK5 HC56 HD5 HD6
      go_wp2_with (first
        | (go_at_call 6; (with_reducible refine (lives41 x6).mono ?_); rintro e w7 ⟨rfl, h7⟩; have LPa := plane_loadM (HK56.out.below h7 HK56.out.lt); have LPb := plane_loadM (HK6.out.below h7 HK6.out.lt); unfold pgL at LPa LPb; have HSM := Lib.hid (same_pl A5 A6 n5 n6 c5 c6 ds5 ds6 ren rtp w7 ((HP56.out.below h7).more h7.size) ((HQ6.out.1.below h7).more h7.size) HEQ.out); unfold pgL at HSM; have HB7 := Lib.hid (HB6x.out.trans (h7.mono HB6x.out.size)); clear h7)
        | ((refine wpList_loadTG LPa ?lgA (by rfl) ?_); (case lgA => kernel_rfl))
        | ((refine wpList_loadTG LPb ?lgB (by rfl) ?_); (case lgB => kernel_rfl))
        | (go_at_call 11; (with_reducible refine HSM.out.mono ?_); rintro e w8 ⟨rfl, h8⟩; have HB8 := Lib.hid (HB7.out.trans (h8.mono HB7.out.size)); clear h8))
      go_ret
      exact ⟨rfl, HB.out.trans (HB8.out.mono HB.out.size)⟩
    · have h3i : (s.size : Int) > 3000 := by omega
      clear h3
      go_enter Try.func3, Try.ntmps3
      go_upto_region 1 with fail
      (try rw [hw1])
      clear hw1
      go_wp2_with (first
        | refine wpList_loadT LP1 (by rfl) ?_
        | (go_at_call 5; (with_reducible refine HSM.out.mono ?_); rintro e w2 ⟨rfl, h2⟩; have HB2 := Lib.hid h2; clear h2)
        | (go_at_call 6; (with_reducible refine (lives41 _).mono ?_); rintro e w3 ⟨rfl, h3⟩; have HB3 := Lib.hid h3; clear h3))
      go_ret
      exact ⟨rfl, (HB.out.trans (HB2.out.mono HB.out.size)).trans (HB3.out.mono (Nat.le_trans HB.out.size HB2.out.size))⟩
end Go.Proofs.Ytbpcddimnbjoeaa
