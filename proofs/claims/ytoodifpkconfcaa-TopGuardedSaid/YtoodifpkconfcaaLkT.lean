/- Package lock: a table of mutexes, made and taken once. -/
import Derived.Test.YtoodifpkconfcaaLkS
import Derived.Test.YtoodifpkconfcaaEpM
import Derived.Maps.Own
import Derived.Maps.OwnOps
import Derived.Maps.OwnSet
import Derived.Maps.Range
import Derived.Maps.RangeWalk
import Derived.Maps.RangeRun
import Derived.Deep.WholeRow
namespace Go.Proofs.Ytoodifpkconfcaa
open Go.RowKit Go.Maps Go.ChangeMaps Go.MapKept
theorem lawI : Keyed Try.prog 3 := int_keyed Try.underlying3
structure LkAt (w : World) (t hb wb nh nw : Nat) (D Dw : DataW Unit) : Prop where
  k : Blk w t 75 #[.map (some hb), .map (some wb), .bool false]
  h : w.ownsMap Try.prog 3 (plainElem Try.prog 3) hb nh D
  wt : w.ownsMap Try.prog 3 (plainElem Try.prog 3) wb nw Dw
  ne : hb ≠ wb
theorem ownsMap_at {w w' : World} {b n : Nat} {D : DataW Unit} (h : w.ownsMap Try.prog 3 (plainElem Try.prog 3) b n D) (hb : w'.heap[b]? = w.heap[b]?) : w'.ownsMap Try.prog 3 (plainElem Try.prog 3) b n D := by
  obtain ⟨es, clock, h1, h2⟩ := h
  exact ⟨es, clock, hb.trans h1, h2⟩
theorem LkAt.below {w w' : World} {t hb wb nh nw : Nat} {D Dw : DataW Unit} (h : LkAt w t hb wb nh nw D Dw) (hB : Below w.heap.size w w') : LkAt w' t hb wb nh nw D Dw :=
  ⟨h.k.below hB h.k.lt, ownsMap_at h.h (hB.block _ h.h.lt), ownsMap_at h.wt (hB.block _ h.wt.lt), h.ne⟩
theorem zeroI : ∀ w, (zeroValue 3).run Try.prog w = .ok (.int .i64 0) w := by
  have h : (Try.prog.info? 3).map (fun i => (i.zero, i.size)) = some (some (.int .i64 0), 1) := by kernel_rfl
  exact (zero_of_info h).1
set_option maxRecDepth 100000 in
theorem lk_holder {w : World} {t hb wb nh nw : Nat} {D Dw : DataW Unit} (h : LkAt w t hb wb nh nw D Dw) (n : Int) (hn : (Lit.int .i64 n).wf = true) (c : Int) (hc : D.atKey (.int .i64 n) (.lit (.int .i64 0)) = .lit (.int .i64 c)) (b : Bool) (hh : has D (.int .i64 n) = b) :
    Calls Try.prog 42 #[.pointer (some ⟨t, 0, none⟩), .int .i64 n] w fun e w' => e = .returned (.tuple #[.int .i64 c, .bool b]) ∧ w = w' := by
  have k0 := h.k.cell 0
  have HH := Lib.hid h.h
  have hkey := keyOf_int_mk (P := Try.prog) Try.underlying3 hn
  have HC := Lib.hid hc
  have HB := Lib.hid hh
  clear h hc hh
  go_enter Try.func42, Try.ntmps42
  go_wp2_with (at_lookup; refine wpList_lookup_own_ok_int _ rfl (.tmp 14) (.tmp 15) 57 rfl 3 3 .i64 lawI Try.underlying57 Try.underlying3 (zeroI _) hb nh D rfl HH.out (.int .i64 n) (.int .i64 n) rfl hkey ?_; intro c' hat hwc; rw [HB.out]; have e : c' = c := (by rw [HC.out] at hat; injection hat with hat; injection hat with _ hat; exact hat.symm); rw [e])
  go_ret2
  exact ⟨rfl, rfl⟩
theorem LkAt.tne {w : World} {t hb wb nh nw : Nat} {D Dw : DataW Unit} (h : LkAt w t hb wb nh nw D Dw) : t ≠ hb ∧ t ≠ wb := by
  obtain ⟨es, cl, h1, _⟩ := h.h
  obtain ⟨es', cl', h2, _⟩ := h.wt
  have hk := h.k
  unfold Blk at hk
  constructor
  · rintro rfl; rw [hk] at h1; cases h1
  · rintro rfl; rw [hk] at h2; cases h2
theorem lk_new (w : World) : Calls Try.prog 17 #[] w fun e w' => (∃ t hb wb, e = .returned (.pointer (some ⟨t, 0, none⟩)) ∧ LkAt w' t hb wb 0 0 (.map []) (.map []) ∧ w.heap.size ≤ t ∧ w.heap.size ≤ hb ∧ w.heap.size ≤ wb) ∧ Below w.heap.size w w' := by
  have hmm := fun w => run_makeMap (P := Try.prog) 57 w
  have e1 : (w.alloc (.map #[] 0)).heap.size = w.heap.size + 1 := by simp only [World.alloc, Array.size_push]
  have e2 : ((w.alloc (.map #[] 0)).alloc (.map #[] 0)).heap.size = w.heap.size + 2 := by simp only [World.alloc, Array.size_push]
  go_enter Try.func17, Try.ntmps17
  go_wp2
  go_ret
  have b1 : Below w.heap.size w (w.alloc (.map #[] 0)) := (Below.refl _ w).alloc (Nat.le_refl _) _
  have b2 := b1.alloc b1.size (.map #[] 0)
  have m1 := (World.ownsMap_made w Try.prog 3 (plainElem (H := Unit) Try.prog 3)).alloc (.map #[] 0)
  have m2 := World.ownsMap_made (w.alloc (.map #[] 0)) Try.prog 3 (plainElem (H := Unit) Try.prog 3)
  rw [e1] at m2
  refine ⟨⟨w.heap.size + 2, w.heap.size, w.heap.size + 1, rfl, ⟨?_, m1.alloc _, m2.alloc _, by omega⟩, by omega, by omega, by omega⟩, b2.alloc b2.size _⟩
  rw [← e2]
  exact Blk.new _ _ _
section
variable {w : World} {t hb wb nh nw : Nat} {D Dw : DataW Unit}
set_option maxRecDepth 100000 in
theorem lk_holds (h : LkAt w t hb wb nh nw D Dw) (x n : Int) (hn : (Lit.int .i64 n).wf = true) (c : Int) (hc : D.atKey (.int .i64 n) (.lit (.int .i64 0)) = .lit (.int .i64 c)) (b : Bool) (hh : has D (.int .i64 n) = b) (hx : (b && (c == x)) = false) :
    Calls Try.prog 33 #[.pointer (some ⟨t, 0, none⟩), .int .i64 x, .int .i64 n] w fun e w' => e = .returned (.bool false) ∧ w = w' := by
  have HH := Lib.hid (lk_holder h n hn c hc b hh)
  clear h hc hh
  cases b with
  | false =>
    clear hx
    go_enter Try.func33, Try.ntmps33
    go_wp2_with (go_at_call 42; refine HH.out.mono ?_; rintro e w' ⟨rfl, rfl⟩)
    go_ret
    exact ⟨rfl, rfl⟩
  | true =>
    have hq : (c == x) = false := by simpa using hx
    clear hx
    go_enter Try.func33, Try.ntmps33
    go_wp2_with (go_at_call 42; refine HH.out.mono ?_; rintro e w' ⟨rfl, rfl⟩)
    go_ret
    exact ⟨rfl, rfl⟩
set_option maxRecDepth 100000 in
set_option maxHeartbeats 1000000 in
theorem lk_held (h : LkAt w t hb wb nh nw D Dw) (x : Int) (hno : ∀ k c, (∀ zd, D.atKey (.int .i64 k) zd = .lit (.int .i64 c)) → (c == x) = false) :
    Calls Try.prog 34 #[.pointer (some ⟨t, 0, none⟩), .int .i64 x] w fun e w' => e = .returned (.slice none 0 0) ∧ Below w.heap.size w w' := by
  have k0 := h.k.cell 0
  have HH := Lib.hid h.h
  have HN := Lib.hid hno
  have hbl := h.h.lt
  clear h hno
  go_enter Try.func34, Try.ntmps34
  go_wp2_with (at_range; refine wpList_range_own _ rfl (.tmp 13) 57 rfl 3 3 lawI Try.underlying57 _ hb nh D rfl HH.out ?_; intro w0 hrg0 hg0 hs0)
  go_frame
  have hb0 : Below w.heap.size w w0 := ⟨hg0.os, hg0.tape, hg0.output, hg0.size, fun k hk => hg0.block k hk (by simp)⟩
  replace hb0 := Lib.hid hb0
  clear hg0 hs0 k0
  go_loopw [5] (fun v wr => v = .slice none 0 0 ∧ ∃ (left : Lit → Bool) (cnt : Nat), wr.ranges Try.prog 3 (plainElem Try.prog 3) hb w.heap.size nh D left cnt ∧ Hid (Below w.heap.size w wr)) (fun _ wr => wr.rangeLeft hb w.heap.size)
  case atStart => exact ⟨rfl, _, _, hrg0, hb0⟩
  case round =>
    clear hrg0 hb0
    obtain ⟨rfl, left, cnt, hrg, hB⟩ := hrel
    have hm0 := hrg.left_eq
    go_wp2_with (at_next; refine wpList_next_ranges_ii _ rfl _ rfl 3 3 .i64 .i64 lawI Try.underlying3 Try.underlying3 hb w.heap.size nh _ _ _ rfl hrg ?_ ?_)
    · intro _ _
      have hS := Lib.hid (sort_zero wr)
      clear hrg hm0
      go_wp2_with (go_at_call 38; refine hS.out.mono ?_; rintro e w' ⟨rfl, rfl⟩)
      go_ret
      exact ⟨rfl, hB.out⟩
    · intro k c w1 cnt1 _ _ _ hat hrg1 hlt hg1 hs1 hen
      have hq := HN.out k c hat
      have hB1 : Hid (Below w.heap.size w w1) := hB.out.trans ⟨hg1.os, hg1.tape, hg1.output, hg1.size, fun j hj => hg1.block j (Nat.lt_of_lt_of_le hj hB.out.size) (by simp; omega)⟩
      have hm1 := hrg1.left_eq
      clear hrg hat hB hg1 hs1
      go_wp2_with fail
      go_roundw
      case rel => exact ⟨rfl, _, _, hrg1, hB1⟩
      case measure => rw [hm0, hm1]; exact hlt
theorem turned_tch {S : Nat → Prop} {w' : World} {b : Nat} (h : w.mapTurned w' b) (hb : S b) : Tch S w w' := by
  have hg := h.grown
  exact ⟨hg.os, hg.tape, hg.output, hg.size, fun k hk hn => hg.block k hk (by rintro e; injection e with e; subst e; exact hn hb)⟩
/-- The blocks of a table's two maps. -/
def lkS (hb wb : Nat) (k : Nat) : Prop := k = hb ∨ k = wb
set_option maxRecDepth 100000 in
set_option maxHeartbeats 1000000 in
theorem lk_take_ok (h : LkAt w t hb wb nh nw D Dw) (x n : Int) (hx0 : decide (x < 0) = false) (hx1 : decide (x > 64) = false) (hn0 : decide (n < 0) = false) (hn1 : decide (n > 4096) = false)
    (hn : (Lit.int .i64 n).wf = true) (hxw : (Lit.int .i64 x).wf = true) (hc : D.atKey (.int .i64 n) (.lit (.int .i64 0)) = .lit (.int .i64 0)) (hh : has D (.int .i64 n) = false)
    (hno : ∀ k c, (∀ zd, D.atKey (.int .i64 k) zd = .lit (.int .i64 c)) → (c == x) = false) (hnh : nh < maxLen) :
    Calls Try.prog 18 #[.pointer (some ⟨t, 0, none⟩), .int .i64 x, .int .i64 n] w fun e w' => e = .returned (.bool true) ∧ LkAt w' t hb wb (nh + 1) nw (D.put (.int .i64 n) (.lit (.int .i64 x))) (Dw.del (.int .i64 x)) ∧ Tch (lkS hb wb) w w' := by
  have HS := Lib.hid (lk_holds h x n hn 0 hc false hh rfl)
  have HD := Lib.hid (lk_held h x hno)
  have hkn := keyOf_int_mk (P := Try.prog) Try.underlying3 hn
  have hkx := keyOf_int_mk (P := Try.prog) Try.underlying3 hxw
  have HA := Lib.hid h
  have HC := Lib.hid hc
  have HH := Lib.hid hh
  have hv := plainElem_int (H := Unit) (P := Try.prog) Try.underlying3 hxw
  clear h hc hh hno
  go_enter Try.func18, Try.ntmps18
  go_wp2_with (go_at_call 33; refine HS.out.mono ?_; rintro e w' ⟨rfl, rfl⟩)
  refine HD.out.mono ?_
  rintro e w1 ⟨rfl, hb1⟩
  have H1 := HA.out.below hb1
  have k0 := H1.k.cell 0
  have k1 := H1.k.cell 1
  have HB1 : Hid (Tch (lkS hb wb) w w1) := Tch.of_below hb1
  replace H1 := Lib.hid H1
  clear hb1 HS HD
  go_wp2_with fail
  go_loopw [39] (fun i wx => i = .int .i64 0 ∧ wx = w1) (fun _ _ => 0)
  case atStart => exact ⟨rfl, rfl⟩
  case round =>
    obtain ⟨rfl, rfl⟩ := hrel
    go_wp2_with (first
      | (at_lookup; refine wpList_lookup_own_ok_int _ rfl (.tmp 54) (.tmp 55) 57 rfl 3 3 .i64 lawI Try.underlying57 Try.underlying3 (zeroI _) hb nh D rfl H1.out.h (.int .i64 n) (.int .i64 n) rfl hkn ?_; intro c' _ _; rw [HH.out])
      | (at_mapUpdate; refine wpList_mapUpdate_in _ rfl (.tmp 69) (.tmp 70) (.tmp 71) 57 rfl 3 3 lawI Try.underlying57 (plainElem Try.prog 3) hb nh D rfl H1.out.h hnh (.int .i64 n) (.int .i64 x) (.int .i64 n) rfl rfl hkn (.lit (.int .i64 x)) [] hv ?_; intro w2 ho2 ht2; have hg2 := ht2.grown; have H2 : LkAt w2 t hb wb (nh + 1) nw (D.put (.int .i64 n) (.lit (.int .i64 x))) Dw := ⟨(hg2.block t H1.out.k.lt (by have := H1.out.tne.1; simp; omega)).trans H1.out.k, ho2, ownsMap_at H1.out.wt (hg2.block wb H1.out.wt.lt (by have := H1.out.ne; simp; omega)), H1.out.ne⟩; have HB2 := Lib.hid (HB1.out.trans (turned_tch (S := lkS hb wb) ht2 (Or.inl rfl)) (fun _ h => Or.inl h)); have k2 := H2.k.cell 1; replace H2 := Lib.hid H2; clear ho2 ht2 hg2)
      | (at_delete; refine wpList_delete_own _ rfl (.tmp 75) (.tmp 76) 57 3 rfl 3 lawI Try.underlying57 (plainElem Try.prog 3) wb nw Dw rfl H2.out.wt (.int .i64 x) (.int .i64 x) rfl hkx ?_; intro w3 ho3 ht3; have hg3 := ht3.grown; have H3 : Hid (LkAt w3 t hb wb (nh + 1) nw (D.put (.int .i64 n) (.lit (.int .i64 x))) (Dw.del (.int .i64 x))) := ⟨(hg3.block t H2.out.k.lt (by have := H2.out.tne.2; simp; omega)).trans H2.out.k, ownsMap_at H2.out.h (hg3.block hb H2.out.h.lt (by have := H2.out.ne; simp; omega)), ho3, H2.out.ne⟩; have HB3 := Lib.hid (HB2.out.trans (turned_tch (S := lkS hb wb) ht3 (Or.inr rfl)) (fun _ h => Or.inl h)); clear ho3 ht3 hg3))
    go_ret
    exact ⟨rfl, H3.out, HB3.out⟩
set_option maxRecDepth 100000 in
set_option maxHeartbeats 1000000 in
theorem lk_take_no (h : LkAt w t hb wb nh nw D Dw) (x n : Int) (hx0 : decide (x < 0) = false) (hx1 : decide (x > 64) = false) (hn0 : decide (n < 0) = false) (hn1 : decide (n > 4096) = false)
    (hn : (Lit.int .i64 n).wf = true) (hxw : (Lit.int .i64 x).wf = true) (c : Int) (hc : D.atKey (.int .i64 n) (.lit (.int .i64 0)) = .lit (.int .i64 c)) (hcx : (c == x) = false) (hh : has D (.int .i64 n) = true)
    (hno : ∀ k c, (∀ zd, D.atKey (.int .i64 k) zd = .lit (.int .i64 c)) → (c == x) = false) (hnh : nw < maxLen) :
    Calls Try.prog 18 #[.pointer (some ⟨t, 0, none⟩), .int .i64 x, .int .i64 n] w fun e w' => e = .returned (.bool false) ∧ Tch (lkS hb wb) w w' := by
  have HS := Lib.hid (lk_holds h x n hn c hc true hh (by simpa using hcx))
  have HD := Lib.hid (lk_held h x hno)
  have hkn := keyOf_int_mk (P := Try.prog) Try.underlying3 hn
  have hkx := keyOf_int_mk (P := Try.prog) Try.underlying3 hxw
  have HA := Lib.hid h
  have HC := Lib.hid hc
  have HH := Lib.hid hh
  have hv := plainElem_int (H := Unit) (P := Try.prog) Try.underlying3 hn
  clear h hc hh hno hcx
  go_enter Try.func18, Try.ntmps18
  go_wp2_with (go_at_call 33; refine HS.out.mono ?_; rintro e w' ⟨rfl, rfl⟩)
  refine HD.out.mono ?_
  rintro e w1 ⟨rfl, hb1⟩
  have H1 := HA.out.below hb1
  have k0 := H1.k.cell 0
  have k1 := H1.k.cell 1
  have HB1 : Hid (Tch (lkS hb wb) w w1) := Tch.of_below hb1
  replace H1 := Lib.hid H1
  clear hb1 HS HD
  go_wp2_with fail
  go_loopw [39] (fun i wx => i = .int .i64 0 ∧ wx = w1) (fun _ _ => 0)
  case atStart => exact ⟨rfl, rfl⟩
  case round =>
    obtain ⟨rfl, rfl⟩ := hrel
    go_wp2_with (first
      | (at_lookup; refine wpList_lookup_own_ok_int _ rfl (.tmp 54) (.tmp 55) 57 rfl 3 3 .i64 lawI Try.underlying57 Try.underlying3 (zeroI _) hb nh D rfl H1.out.h (.int .i64 n) (.int .i64 n) rfl hkn ?_; intro c' _ _; rw [HH.out])
      | (at_mapUpdate; refine wpList_mapUpdate_in _ rfl (.tmp 63) (.tmp 64) (.tmp 65) 57 rfl 3 3 lawI Try.underlying57 (plainElem Try.prog 3) wb nw Dw rfl H1.out.wt hnh (.int .i64 x) (.int .i64 n) (.int .i64 x) rfl rfl hkx (.lit (.int .i64 n)) [] hv ?_; intro w2 ho2 ht2; have HB2 := Lib.hid (HB1.out.trans (turned_tch (S := lkS hb wb) ht2 (Or.inr rfl)) (fun _ h => Or.inl h)); clear ho2 ht2))
    go_ret
    exact ⟨rfl, HB2.out⟩
end
theorem has_one : has ((DataW.map [] : DataW Unit).put (.int .i64 1) (.lit (.int .i64 0))) (.int .i64 1) = true := by rfl
theorem at_one : ((DataW.map [] : DataW Unit).put (.int .i64 1) (.lit (.int .i64 0))).atKey (.int .i64 1) (.lit (.int .i64 0)) = .lit (.int .i64 0) := by rfl
theorem no_one : ∀ k c, (∀ zd, ((DataW.map [] : DataW Unit).put (.int .i64 1) (.lit (.int .i64 0))).atKey (.int .i64 k) zd = .lit (.int .i64 c)) → (c == 1) = false := by
  intro k c h
  have e : (DataW.map [] : DataW Unit).put (.int .i64 1) (.lit (.int .i64 0)) = .map [(.int .i64 1, .lit (.int .i64 0))] := rfl
  rw [e] at h
  have h0 := h (.lit (.int .i64 0))
  simp only [DataW.atKey] at h0
  have : c = 0 := by
    split at h0
    · rename_i q hq
      have hm := List.mem_of_find?_eq_some hq
      simp at hm
      rw [hm] at h0
      injection h0 with h0
      injection h0 with _ h0
      exact h0.symm
    · injection h0 with h0
      injection h0 with _ h0
      exact h0.symm
  rw [this]; rfl
end Go.Proofs.Ytoodifpkconfcaa
