/- Package lock: a table of mutexes, over and over. -/
import Derived.Test.YtoodifpkconfcaaLkT
import Derived.Test.YtoodifpkconfcaaRcI
namespace Go.Proofs.Ytoodifpkconfcaa
open Go.RowKit Go.Maps Go.ChangeMaps Go.MapKept
def delO {V : Type} (f : Int → Option V) (k : Int) : Int → Option V := fun x => if x = k then none else f x
theorem delO_self {V : Type} (f : Int → Option V) (k : Int) : delO f k k = none := if_pos rfl
theorem delO_ne {V : Type} (f : Int → Option V) {k x : Int} (h : x ≠ k) : delO f k x = f x := if_neg h
/-- A map of ints, read as a function (its keys left open). -/
structure KvL (D : DataW Unit) (f : Int → Option Int) : Prop where
  tidy : Tidy D
  has_ : ∀ k : Int, has D (.int .i64 k) = (f k).isSome
  at_ : ∀ (k : Int) (v : Int), f k = some v → ∀ z, D.atKey (.int .i64 k) z = itEnc v
section
variable {D : DataW Unit} {f : Int → Option Int}
theorem KvL.nil : KvL (.map []) (fun _ => none) := ⟨tidy_empty, fun k => by simp [has], fun k v h => (by cases h)⟩
theorem KvL.put (h : KvL D f) (k : Int) (v : Int) : KvL (D.put (.int .i64 k) (itEnc v)) (upO f k v) := by
  have hkey : WideAt.IsKeyLit (.int .i64 k) := trivial
  refine ⟨h.tidy.put hkey _, fun x => ?_, fun x u hx z => ?_⟩
  · by_cases e : x = k
    · subst e
      rw [has_put_same h.tidy.isMap hkey, upO_self]; rfl
    · rw [has_put_other (keyIR e), h.has_, upO_ne f e]
  · by_cases e : x = k
    · subst e
      rw [upO_self] at hx
      obtain rfl := Option.some.inj hx
      exact atKey_put_same h.tidy.isMap hkey _ _
    · rw [upO_ne f e] at hx
      rw [atKey_put_other (keyIR e), h.at_ x u hx]
theorem KvL.del (h : KvL D f) (k : Int) : KvL (D.del (.int .i64 k)) (delO f k) := by
  refine ⟨h.tidy.del _, fun x => ?_, fun x u hx z => ?_⟩
  · by_cases e : x = k
    · subst e
      rw [has_del_same, delO_self]; rfl
    · rw [has_del_other (keyIR e), h.has_, delO_ne f e]
  · by_cases e : x = k
    · subst e
      rw [delO_self] at hx; cases hx
    · rw [delO_ne f e] at hx
      rw [atKey_del_other (keyIR e), h.at_ x u hx]
theorem KvL.miss (h : KvL D f) {k : Int} (hk : f k = none) (z : DataW Unit) : D.atKey (.int .i64 k) z = z := atKey_of_not_has (by rw [h.has_, hk]; rfl) z
end
/-- A table, read as functions. -/
def LkF (w : World) (t hb wb N : Nat) (f g : Int → Option Int) : Prop := ∃ D Dw, LkAt w t hb wb N N D Dw ∧ KvL D f ∧ KvL Dw g
theorem LkF.lt {w : World} {t hb wb N : Nat} {f g : Int → Option Int} (h : LkF w t hb wb N f g) : t < w.heap.size ∧ hb < w.heap.size ∧ wb < w.heap.size := by
  obtain ⟨D, Dw, h1, _⟩ := h
  exact ⟨h1.k.lt, h1.h.lt, h1.wt.lt⟩
theorem LkF.keep {w w' : World} {t hb wb N : Nat} {f g : Int → Option Int} {S : Nat → Prop} (h : LkF w t hb wb N f g) (hT : Tch S w w') (hS : ¬ S t ∧ ¬ S hb ∧ ¬ S wb) : LkF w' t hb wb N f g := by
  have hl := h.lt
  obtain ⟨D, Dw, h1, h2⟩ := h
  exact ⟨D, Dw, ⟨(hT.block t hl.1 hS.1).trans h1.k, ownsMap_at h1.h (hT.block hb hl.2.1 hS.2.1), ownsMap_at h1.wt (hT.block wb hl.2.2 hS.2.2), h1.ne⟩, h2⟩
theorem LkF.below {w w' : World} {t hb wb N : Nat} {f g : Int → Option Int} (h : LkF w t hb wb N f g) (hB : Below w.heap.size w w') : LkF w' t hb wb N f g := h.keep (Tch.of_below (S := fun _ => False) hB) ⟨id, id, id⟩
theorem KvL.who {D : DataW Unit} {f : Int → Option Int} (h : KvL D f) {x : Int} (hno : ∀ k c, f k = some c → c ≠ x) : ∀ k c, (∀ zd, D.atKey (.int .i64 k) zd = .lit (.int .i64 c)) → (c == x) = false := fun k c hc => by
  cases hf : f k with
  | some v =>
    have h1 := (h.at_ k v hf (.lit (.int .i64 0))).symm.trans (hc _)
    unfold itEnc at h1
    injection h1 with h1
    injection h1 with _ h1
    subst h1
    simpa using hno k v hf
  | none =>
    have h0 := (h.miss hf (.lit (.int .i64 0))).symm.trans (hc _)
    have h1 := (h.miss hf (.lit (.int .i64 1))).symm.trans (hc _)
    injection h0 with h0
    injection h0 with _ h0
    injection h1 with h1
    injection h1 with _ h1
    omega
theorem LkAt.more {w : World} {t hb wb nh nw nh' nw' : Nat} {D Dw : DataW Unit} (h : LkAt w t hb wb nh nw D Dw) (h1 : nh ≤ nh') (h2 : nw ≤ nw') : LkAt w t hb wb nh' nw' D Dw := ⟨h.k, h.h.mono h1, h.wt.mono h2, h.ne⟩
section
variable {w : World} {t hb wb nh nw : Nat} {D Dw : DataW Unit}
set_option maxRecDepth 100000 in
set_option maxHeartbeats 1000000 in
theorem lk_take_no2 (h : LkAt w t hb wb nh nw D Dw) (x n : Int) (hx0 : decide (x < 0) = false) (hx1 : decide (x > 64) = false) (hn0 : decide (n < 0) = false) (hn1 : decide (n > 4096) = false)
    (hn : (Lit.int .i64 n).wf = true) (hxw : (Lit.int .i64 x).wf = true) (c : Int) (hc : D.atKey (.int .i64 n) (.lit (.int .i64 0)) = .lit (.int .i64 c)) (hcx : (c == x) = false) (hh : has D (.int .i64 n) = true)
    (hno : ∀ k c, (∀ zd, D.atKey (.int .i64 k) zd = .lit (.int .i64 c)) → (c == x) = false) (hnh : nw < maxLen) :
    Calls Try.prog 18 #[.pointer (some ⟨t, 0, none⟩), .int .i64 x, .int .i64 n] w fun e w' => e = .returned (.bool false) ∧ LkAt w' t hb wb nh (nw + 1) D (Dw.put (.int .i64 x) (.lit (.int .i64 n))) ∧ Tch (lkS hb wb) w w' := by
  have HS := Lib.hid (lk_holds h x n hn c hc true hh (by simpa using hcx))
  have HD := Lib.hid (lk_held h x hno)
  have hkn := keyOf_int_mk (P := Try.prog) Try.underlying3 hn
  have hkx := keyOf_int_mk (P := Try.prog) Try.underlying3 hxw
  have HA := Lib.hid h
  have HC := Lib.hid hc
  have HH := Lib.hid hh
  have hv := plainElem_int (H := Unit) (P := Try.prog) Try.underlying3 hn
  clear h hc hh hno hcx
  go_enter Try.func18, Try.ntmps18
  go_wp2_with (go_at_call 33; refine HS.out.mono ?_; rintro e w' ⟨rfl, rfl⟩)
  refine HD.out.mono ?_
  rintro e w1 ⟨rfl, hb1⟩
  have H1 := HA.out.below hb1
  have k0 := H1.k.cell 0
  have k1 := H1.k.cell 1
  have HB1 : Hid (Tch (lkS hb wb) w w1) := Tch.of_below hb1
  replace H1 := Lib.hid H1
  clear hb1 HS HD
  go_wp2_with fail
  go_loopw [39] (fun i wx => i = .int .i64 0 ∧ wx = w1) (fun _ _ => 0)
  case atStart => exact ⟨rfl, rfl⟩
  case round =>
    obtain ⟨rfl, rfl⟩ := hrel
    go_wp2_with (first
      | (at_lookup; refine wpList_lookup_own_ok_int _ rfl (.tmp 54) (.tmp 55) 57 rfl 3 3 .i64 lawI Try.underlying57 Try.underlying3 (zeroI _) hb nh D rfl H1.out.h (.int .i64 n) (.int .i64 n) rfl hkn ?_; intro c' _ _; rw [HH.out])
      | (at_mapUpdate; refine wpList_mapUpdate_in _ rfl (.tmp 63) (.tmp 64) (.tmp 65) 57 rfl 3 3 lawI Try.underlying57 (plainElem Try.prog 3) wb nw Dw rfl H1.out.wt hnh (.int .i64 x) (.int .i64 n) (.int .i64 x) rfl rfl hkx (.lit (.int .i64 n)) [] hv ?_; intro w2 ho2 ht2; have hg2 := ht2.grown; have H2 : Hid (LkAt w2 t hb wb nh (nw + 1) D (Dw.put (.int .i64 x) (.lit (.int .i64 n)))) := ⟨(hg2.block t H1.out.k.lt (by have := H1.out.tne.2; simp; omega)).trans H1.out.k, ownsMap_at H1.out.h (hg2.block hb H1.out.h.lt (by have := H1.out.ne; simp; omega)), ho2, H1.out.ne⟩; clear hg2; have HB2 := Lib.hid (HB1.out.trans (turned_tch (S := lkS hb wb) ht2 (Or.inr rfl)) (fun _ h => Or.inl h)); clear ho2 ht2))
    go_ret
    exact ⟨rfl, H2.out, HB2.out⟩
set_option maxRecDepth 100000 in
theorem lk_holds_yes (h : LkAt w t hb wb nh nw D Dw) (x n : Int) (hn : (Lit.int .i64 n).wf = true) (hc : D.atKey (.int .i64 n) (.lit (.int .i64 0)) = .lit (.int .i64 x)) (hh : has D (.int .i64 n) = true) :
    Calls Try.prog 33 #[.pointer (some ⟨t, 0, none⟩), .int .i64 x, .int .i64 n] w fun e w' => e = .returned (.bool true) ∧ w = w' := by
  have HH := Lib.hid (lk_holder h n hn x hc true hh)
  clear h hc hh
  go_enter Try.func33, Try.ntmps33
  go_wp2_with (go_at_call 42; refine HH.out.mono ?_; rintro e w' ⟨rfl, rfl⟩)
  go_ret
  exact ⟨by simp, rfl⟩
set_option maxRecDepth 100000 in
set_option maxHeartbeats 1000000 in
theorem lk_give (h : LkAt w t hb wb nh nw D Dw) (x n : Int) (hn : (Lit.int .i64 n).wf = true) (hxw : (Lit.int .i64 x).wf = true) (hc : D.atKey (.int .i64 n) (.lit (.int .i64 0)) = .lit (.int .i64 x)) (hh : has D (.int .i64 n) = true) :
    Calls Try.prog 19 #[.pointer (some ⟨t, 0, none⟩), .int .i64 x, .int .i64 n] w fun e w' => e = .returned (.bool true) ∧ LkAt w' t hb wb nh nw (D.del (.int .i64 n)) (Dw.del (.int .i64 x)) ∧ Tch (lkS hb wb) w w' := by
  have HS := Lib.hid (lk_holds_yes h x n hn hc hh)
  have hkn := keyOf_int_mk (P := Try.prog) Try.underlying3 hn
  have hkx := keyOf_int_mk (P := Try.prog) Try.underlying3 hxw
  have HA := Lib.hid h
  have k0 := h.k.cell 0
  clear h hc hh
  go_enter Try.func19, Try.ntmps19
  go_wp2_with (first
    | (go_at_call 33; refine HS.out.mono ?_; rintro e w' ⟨rfl, rfl⟩)
    | (at_delete; refine wpList_delete_own _ rfl (.tmp 15) (.tmp 16) 57 3 rfl 3 lawI Try.underlying57 (plainElem Try.prog 3) hb nh D rfl HA.out.h (.int .i64 n) (.int .i64 n) rfl hkn ?_; intro w3 ho3 ht3; have hg3 := ht3.grown; have H3 : Hid (LkAt w3 t hb wb nh nw (D.del (.int .i64 n)) Dw) := ⟨(hg3.block t HA.out.k.lt (by have := HA.out.tne.1; simp; omega)).trans HA.out.k, ho3, ownsMap_at HA.out.wt (hg3.block wb HA.out.wt.lt (by have := HA.out.ne; simp; omega)), HA.out.ne⟩; have HB3 : Hid (Tch (lkS hb wb) w w3) := turned_tch ht3 (Or.inl rfl); have k1 := H3.out.k.cell 1; clear ho3 ht3 hg3 k0)
    | (at_delete; refine wpList_delete_own _ rfl (.tmp 20) (.tmp 21) 57 3 rfl 3 lawI Try.underlying57 (plainElem Try.prog 3) wb nw Dw rfl H3.out.wt (.int .i64 x) (.int .i64 x) rfl hkx ?_; intro w4 ho4 ht4; have hg4 := ht4.grown; have H4 : Hid (LkAt w4 t hb wb nh nw (D.del (.int .i64 n)) (Dw.del (.int .i64 x))) := ⟨(hg4.block t H3.out.k.lt (by have := H3.out.tne.2; simp; omega)).trans H3.out.k, ownsMap_at H3.out.h (hg4.block hb H3.out.h.lt (by have := H3.out.ne; simp; omega)), ho4, H3.out.ne⟩; have HB4 := Lib.hid (HB3.out.trans (turned_tch (S := lkS hb wb) ht4 (Or.inr rfl)) (fun _ h => Or.inl h)); clear ho4 ht4 hg4))
  go_ret
  exact ⟨rfl, H4.out, HB4.out⟩
set_option maxRecDepth 100000 in
theorem lk_next (h : LkAt w t hb wb nh nw D Dw) (x : Int) (hxw : (Lit.int .i64 x).wf = true) (hh : has Dw (.int .i64 x) = false) :
    Calls Try.prog 35 #[.pointer (some ⟨t, 0, none⟩), .int .i64 x] w fun e w' => e = .returned (.tuple #[.int .i64 0, .bool false]) ∧ w = w' := by
  have k1 := h.k.cell 1
  have HH := Lib.hid h.wt
  have hkey := keyOf_int_mk (P := Try.prog) Try.underlying3 hxw
  have HB := Lib.hid hh
  clear h hh
  go_enter Try.func35, Try.ntmps35
  go_wp2_with (at_lookup; refine wpList_lookup_own_ok_int _ rfl (.tmp 12) (.tmp 13) 57 rfl 3 3 .i64 lawI Try.underlying57 Try.underlying3 (zeroI _) wb nw Dw rfl HH.out (.int .i64 x) (.int .i64 x) rfl hkey ?_; intro c' _ _; rw [HB.out])
  go_ret2
  exact ⟨rfl, rfl⟩
set_option maxRecDepth 100000 in
set_option maxHeartbeats 1000000 in
theorem lk_ring (h : LkAt w t hb wb nh nw D Dw) (hh : ∀ x : Int, has Dw (.int .i64 x) = false) :
    Calls Try.prog 20 #[.pointer (some ⟨t, 0, none⟩)] w fun e w' => e = .returned (.slice none 0 0) ∧ Below w.heap.size w w' := by
  have HA := Lib.hid h
  have HH := Lib.hid hh
  clear h hh
  go_enter Try.func20, Try.ntmps20
  go_upto_region 4 with fail
  go_loopw [3, 4, 5, 6, 9] (fun _ _ _ _ s9 W => ∃ j : Nat, j ≤ 65 ∧ s9 = .int .i64 j ∧ Hid (Below w.heap.size w W)) (fun _ _ _ _ s9 _ => 65 - (RowKit.intOf s9).toNat)
  case atStart => exact ⟨0, by decide, rfl, Lib.hid (Below.refl _ w)⟩
  case round =>
    obtain ⟨j, hj, rfl, HB⟩ := hrel
    by_cases hlt : j < 65
    · have HLT := Lib.hid hlt
      have t4 : decide ((j : Int) < 65) = true := decide_eq_true (by omega)
      have hb2 : Below wr.heap.size wr (wr.alloc (.cells #[.int .i64 (j : Int)] 3)) := (Below.refl _ wr).alloc (Nat.le_refl _) _
      have HB2 := Lib.hid (HB.out.trans (hb2.mono HB.out.size))
      have HN := Lib.hid (lk_next (HA.out.below HB2.out) (j : Int) (by simp [Lit.wf, IntKind.min, IntKind.max, IntKind.signed, IntKind.bits]; omega) (HH.out _))
      have j65 : (j : Int) < 65 := by omega
      clear hb2 hlt
      go_wp2_with (go_at_call 35; (with_reducible refine HN.out.mono ?_); rintro e w' ⟨rfl, rfl⟩)
      have HJ5 := Lib.hid j65
      go_loopw [6] (fun s6 W => s6 = .bool false ∧ Hid (Below w.heap.size w W)) (fun _ _ => 0)
      case atStart => exact ⟨rfl, HB2⟩
      case round =>
        obtain ⟨rfl, HB3⟩ := hrel
        clear HB2 HB
        go_wp2_with fail
        go_roundw
        case rel => exact ⟨j + 1, by have := HLT.out; omega, by go_num, HB3⟩
        case measure => have := HLT.out; simp [RowKit.intOf]; omega
    · obtain rfl : j = 65 := by omega
      go_wp2_with fail
      go_ret
      exact ⟨rfl, HB.out⟩
end
section
variable {w : World} {t hb wb N : Nat} {f g : Int → Option Int}
theorem lk_takeF (S : LkF w t hb wb N f g) (x n : Int) (hx : 0 ≤ x ∧ x ≤ 64) (hn : 0 ≤ n ∧ n ≤ 4096) (hf : f n = none) (hno : ∀ k c, f k = some c → c ≠ x) (hN : N ≤ 1000) :
    Calls Try.prog 18 #[.pointer (some ⟨t, 0, none⟩), .int .i64 x, .int .i64 n] w fun e w' => e = .returned (.bool true) ∧ LkF w' t hb wb (N + 1) (upO f n x) (delO g x) ∧ Tch (lkS hb wb) w w' := by
  obtain ⟨D, Dw, h1, h2, h3⟩ := S
  have wfx : ∀ z : Int, 0 ≤ z ∧ z ≤ 4096 → (Lit.int .i64 z).wf = true := fun z h => by simp [Lit.wf, IntKind.min, IntKind.max, IntKind.signed, IntKind.bits]; omega
  refine (lk_take_ok h1 x n (decide_eq_false (by omega)) (decide_eq_false (by omega)) (decide_eq_false (by omega)) (decide_eq_false (by omega)) (wfx n hn) (wfx x (by omega)) (h2.miss hf _) (by rw [h2.has_, hf]; rfl) (h2.who hno) (by unfold maxLen; omega)).mono ?_
  rintro e w' ⟨rfl, q1, q2⟩
  exact ⟨rfl, ⟨_, _, q1.more (Nat.le_refl _) (Nat.le_succ _), h2.put n x, h3.del x⟩, q2⟩
theorem wf_lk {z : Int} (h : 0 ≤ z ∧ z ≤ 4096) : (Lit.int .i64 z).wf = true := by simp [Lit.wf, IntKind.min, IntKind.max, IntKind.signed, IntKind.bits]; omega
theorem lk_takeN (S : LkF w t hb wb N f g) (x n : Int) (hx : 0 ≤ x ∧ x ≤ 64) (hn : 0 ≤ n ∧ n ≤ 4096) {c : Int} (hf : f n = some c) (hno : ∀ k c, f k = some c → c ≠ x) (hN : N ≤ 1000) :
    Calls Try.prog 18 #[.pointer (some ⟨t, 0, none⟩), .int .i64 x, .int .i64 n] w fun e w' => e = .returned (.bool false) ∧ LkF w' t hb wb (N + 1) f (upO g x n) ∧ Tch (lkS hb wb) w w' := by
  obtain ⟨D, Dw, h1, h2, h3⟩ := S
  refine (lk_take_no2 h1 x n (decide_eq_false (by omega)) (decide_eq_false (by omega)) (decide_eq_false (by omega)) (decide_eq_false (by omega)) (wf_lk hn) (wf_lk (by omega)) c (h2.at_ n c hf _) (by simpa using hno n c hf) (by rw [h2.has_, hf]; rfl) (h2.who hno) (by unfold maxLen; omega)).mono ?_
  rintro e w' ⟨rfl, q1, q2⟩
  exact ⟨rfl, ⟨_, _, q1.more (Nat.le_succ _) (Nat.le_refl _), h2, h3.put x n⟩, q2⟩
theorem lk_giveF (S : LkF w t hb wb N f g) (x n : Int) (hx : 0 ≤ x ∧ x ≤ 64) (hn : 0 ≤ n ∧ n ≤ 4096) (hf : f n = some x) :
    Calls Try.prog 19 #[.pointer (some ⟨t, 0, none⟩), .int .i64 x, .int .i64 n] w fun e w' => e = .returned (.bool true) ∧ LkF w' t hb wb N (delO f n) (delO g x) ∧ Tch (lkS hb wb) w w' := by
  obtain ⟨D, Dw, h1, h2, h3⟩ := S
  refine (lk_give h1 x n (wf_lk hn) (wf_lk (by omega)) (h2.at_ n x hf _) (by rw [h2.has_, hf]; rfl)).mono ?_
  rintro e w' ⟨rfl, q1, q2⟩
  exact ⟨rfl, ⟨_, _, q1, h2.del n, h3.del x⟩, q2⟩
theorem lk_ringF (S : LkF w t hb wb N f (fun _ => none)) :
    Calls Try.prog 20 #[.pointer (some ⟨t, 0, none⟩)] w fun e w' => e = .returned (.slice none 0 0) ∧ Below w.heap.size w w' := by
  obtain ⟨D, Dw, h1, h2, h3⟩ := S
  exact lk_ring h1 (fun x => h3.has_ x)
theorem lk_newF (w : World) : Calls Try.prog 17 #[] w fun e w' => (∃ t hb wb, e = .returned (.pointer (some ⟨t, 0, none⟩)) ∧ LkF w' t hb wb 0 (fun _ => none) (fun _ => none) ∧ w.heap.size ≤ t ∧ w.heap.size ≤ hb ∧ w.heap.size ≤ wb) ∧ Below w.heap.size w w' := by
  refine (lk_new w).mono ?_
  rintro e w' ⟨⟨t, hb, wb, rfl, h, q⟩, hb'⟩
  exact ⟨⟨t, hb, wb, rfl, ⟨_, _, h, KvL.nil, KvL.nil⟩, q⟩, hb'⟩
theorem delO_upO {V : Type} (k : Int) (v : V) : delO (upO (fun _ => none) k v) k = fun _ => none := by
  funext x
  unfold delO upO
  split <;> rfl
theorem delO_none {V : Type} (k : Int) : delO (fun _ => (none : Option V)) k = fun _ => none := by
  funext x
  unfold delO
  split <;> rfl
theorem delO_upO_ne {V : Type} {k j : Int} (h : j ≠ k) (v : V) : delO (upO (fun _ => none) k v) j = upO (fun _ => none) k v := by
  funext x
  unfold delO upO
  by_cases e : x = j
  · subst e; rw [if_pos rfl, if_neg h]
  · rw [if_neg e]
end
end Go.Proofs.Ytoodifpkconfcaa
