/- Walks of the laws of bitset: sets at hand; what the document gives. -/
import Derived.Test.YtknnalaemndnaaaDoorBitT
import Derived.Test.YtknnalaemndnaaaDoorSameW
namespace Go.Proofs.YtknnalaemndnaaaDoor
open Go.RowKit
/-- A slice of words, at hand. -/
structure WArg (w : World) (A : Option Addr) (m c : Nat) (ws : List Int) : Prop where
  rd : Rd w w.heap.size A m (ws.map (.int .u64))
  word : ∀ z ∈ ws, Word z
  cap : m ≤ c
  nil_ : A = none → c = 0
theorem WArg.below {w w' : World} {A : Option Addr} {m c : Nat} {ws : List Int} (h : WArg w A m c ws) (hb : Below w.heap.size w w') : WArg w' A m c ws :=
  ⟨(h.rd.below hb).more hb.size, h.word, h.cap, h.nil_⟩
theorem WArg.drewN {w : World} {A : Option Addr} {m c : Nat} {ws : List Int} (h : WArg w A m c ws) (q : Nat) : WArg (w.drewN q) A m c ws := ⟨h.rd, h.word, h.cap, h.nil_⟩
theorem WArg.len {w : World} {A : Option Addr} {m c : Nat} {ws : List Int} (h : WArg w A m c ws) : ws.length = m := h.rd.lenI
theorem RetC.open_ {p : Nat → Bool} {w w' : World} {e : Ending} (h : RetC p w e w') : ∃ ws A n c, e = .returned (.slice A n c) ∧ WArg w' A n c ws ∧ Canon p ws ∧ n ≤ 64 ∧ Below w.heap.size w w' := by
  obtain ⟨ws, A, c, he, h1, h2, h3, h4, h5⟩ := h
  exact ⟨ws, A, ws.length, c, he, ⟨h4, h3.1, h1, h2⟩, h3, h3.2.1, h5⟩
theorem warg_lits (w : World) (t : Nat) (cs : List Int) (n : Nat) (hn : cs.length = n) (hw : ∀ z ∈ cs, Word z) : WArg (w.alloc (.cells (cs.map (Value.int .u64)).toArray t)) (some ⟨w.heap.size, 0, none⟩) n n cs := by
  subst hn
  exact ⟨IB.rd (g := w.heap.size) (t := t) (cs := cs) ⟨[], by rw [heap_alloc_new]; simp⟩, hw, Nat.le_refl _, fun h => by cases h⟩
theorem ints_lits (w : World) (t : Nat) (cs : List Int) (n : Nat) (hn : cs.length = n) : Rd (w.alloc (.cells (cs.map (Value.int .i64)).toArray t)) (w.alloc (.cells (cs.map (Value.int .i64)).toArray t)).heap.size (some ⟨w.heap.size, 0, none⟩) n (cs.map (.int .i64)) := by
  subst hn
  exact IB.rd (g := w.heap.size) (t := t) (cs := cs) ⟨[], by rw [heap_alloc_new]; simp⟩
theorem below_lits (w : World) (o : Obj) : Below w.heap.size w (w.alloc o) := (Below.refl _ _).alloc (Nat.le_refl _) _
theorem set_has {A : Option Addr} {m c : Nat} {ws : List Int} {w : World} (h : WArg w A m c ws) (n : Int) (hn : n ≤ 9223372036854775807) {b : Bool} (hb : hasE ws n = b) :
    Calls Tryd.prog 9 #[.slice A m c, .int .i64 n] w fun e w' => e = .returned (.bool b) ∧ w = w' := by
  rw [← hb]; exact bit_has A m c ws _ n hn w h.rd h.word h.cap h.nil_
theorem set_next {A : Option Addr} {m c : Nat} {ws : List Int} {w : World} (h : WArg w A m c ws) (hT : Tz w) (n : Int) (hn : n ≤ 9223372036854775807) {x : Int} {is : Bool} (hx : NextOK (hasB ws) n x is) :
    Calls Tryd.prog 7 #[.slice A m c, .int .i64 n] w fun e w' => e = .returned (.tuple #[.int .i64 x, .bool is]) ∧ w = w' :=
  (bit_next A m c _ ws n hn w h.rd h.word h.cap h.nil_ hT).mono fun e w' ⟨y, is', he, hok, hw⟩ => by
    obtain ⟨rfl, rfl⟩ := next_one hok hx
    exact ⟨he, hw⟩
theorem set_same {A B : Option Addr} {m c m' c' : Nat} {ws vs : List Int} {w : World} (h : WArg w A m c ws) (h' : WArg w B m' c' vs) (e : ws = vs) (hm : m ≤ 4611686018427387904) :
    Calls Tryd.prog 11 #[.slice A m c, .slice B m' c'] w fun e w' => e = .returned (.bool true) ∧ ∃ q, w' = w.drewN q := by
  subst e
  have e1 := h.len
  have e2 := h'.len
  have := same_words A B m m' c c' _ ws ws w h.rd h'.rd hm (by omega)
  rw [show sameB ws ws = true by unfold sameB; simp] at this
  exact this
theorem set_count {A : Option Addr} {m c : Nat} {ws : List Int} {w : World} (h : WArg w A m c ws) {k : Nat} (hk : (listE ws).length = k) :
    Calls Tryd.prog 17 #[.slice A m c] w fun e w' => e = .returned (.int .i64 k) ∧ w = w' := by
  rw [← hk]; exact bit_count A m c _ ws w h.rd h.word h.cap h.nil_
theorem canon_all {p : Nat → Bool} {ws : List Int} (h : ((List.range 4096).all fun n => hasB ws n == p n) = true) : ∀ n, n < 4096 → hasB ws n = p n := fun n hn => by
  have := List.all_eq_true.1 h n (List.mem_range.2 hn)
  simpa using this
theorem p0 : Canon (inL [0, 65, -1]) [1, 2] := ⟨by simp; exact ⟨⟨by decide, by decide⟩, ⟨by decide, by decide⟩⟩, by decide, canon_all (by decide +kernel), Or.inr (by decide)⟩
theorem p1 : Canon (inL [0]) [1] := ⟨by simp; exact ⟨by decide, by decide⟩, by decide, canon_all (by decide +kernel), Or.inr (by decide)⟩
theorem p2 : Canon (inL [1]) [2] := ⟨by simp; exact ⟨by decide, by decide⟩, by decide, canon_all (by decide +kernel), Or.inr (by decide)⟩
theorem p3 : Canon (fun n => hasB [1, 2] n && hasB [1] n) [1] := ⟨by simp; exact ⟨by decide, by decide⟩, by decide, canon_all (by decide +kernel), Or.inr (by decide)⟩
theorem p4 : Canon (fun n => hasB [1, 2] n || hasB [2] n) [3, 2] := ⟨by simp; exact ⟨⟨by decide, by decide⟩, ⟨by decide, by decide⟩⟩, by decide, canon_all (by decide +kernel), Or.inr (by decide)⟩
theorem canon_nil {p : Nat → Bool} (h : ∀ n, n < 4096 → p n = false) : Canon p [] := ⟨by simp, by simp, fun n hn => by rw [h n hn]; exact hasB_out (by simp), Or.inl rfl⟩
theorem q0 : listE [1, 2] = [0, 65] := by decide +kernel
theorem n0 : NextOK (hasB [1, 2]) 1 65 true := by
  refine Or.inl ⟨65, rfl, rfl, by decide, by decide, by decide, fun z h1 h2 => ?_⟩
  rw [p0.2.2.1 z (by omega)]; exact decide_eq_false (by simp; omega)
theorem n1 : NextOK (hasB [1, 2]) 66 0 false := by
  refine Or.inr ⟨rfl, rfl, fun z h1 h2 => ?_⟩
  rw [p0.2.2.1 z (by omega)]; exact decide_eq_false (by simp; omega)
set_option maxRecDepth 100000 in
set_option maxHeartbeats 4000000 in
theorem lives01 (w : World) (hT : Tz w) : Calls Tryd.prog 6 #[] w fun e w' => e = .returned (.bool true) ∧ Below w.heap.size w w' := by
  have HT := Lib.hid hT
  clear hT
  go_enter Tryd.func6, Tryd.ntmps6
  go_wp2_with fail
  refine (bit_of _ 3 3 _ [0, 65, -1] (by simp) _ (ints_lits w 3 [0, 65, -1] 3 rfl) (Nat.le_refl _) (by decide)).mono ?_
  intro e w1 hret
  obtain ⟨ws, A1, n1', c1, rfl, S, hcan, hn1, hb1⟩ := hret.open_
  obtain rfl := canon_one hcan p0
  have B1 : Below w.heap.size w w1 := (below_lits w _).trans (hb1.mono (by simp))
  have T1 := Lib.hid (HT.out.below B1)
  have S1 := Lib.hid S
  clear hret hcan hb1 S
  go_wp2_with fail
  refine (set_next S1.out T1.out 1 (by decide) n0).mono ?_
  rintro e w' ⟨rfl, rfl⟩
  go_wp2_with fail
  refine (set_next S1.out T1.out 66 (by decide) n1).mono ?_
  rintro e w' ⟨rfl, rfl⟩
  go_wp2_with fail
  have L2 := warg_lits w1 38 [1, 2] 2 rfl p0.1
  refine (set_same (S1.out.below (below_lits w1 _)) L2 rfl (by omega)).mono ?_
  rintro e w2 ⟨rfl, q2, hw2⟩
  have b2 : Below w1.heap.size w1 w2 := by rw [hw2]; exact below_drewN (below_lits w1 _) q2
  have B2 := B1.trans (b2.mono B1.size)
  have S2 := Lib.hid (S1.out.below b2)
  have T2 := Lib.hid (T1.out.below b2)
  clear hw2 L2 b2 B1 S1 T1
  go_wp2_with fail
  refine (set_has S2.out 65 (by decide) (b := true) (by decide)).mono ?_
  rintro e w' ⟨rfl, rfl⟩
  go_wp2_with fail
  refine (set_has S2.out 64 (by decide) (b := false) (by decide)).mono ?_
  rintro e w' ⟨rfl, rfl⟩
  go_wp2_with fail
  refine (bit_list A1 n1' c1 [1, 2] w2 S2.out.rd S2.out.word S2.out.cap S2.out.nil_ T2.out).mono ?_
  rw [q0]
  rintro e w3 ⟨⟨A3, c3, rfl, hc3, hrd3⟩, hb3⟩
  have B3 := B2.trans (hb3.mono B2.size)
  have S3 := Lib.hid (S2.out.below hb3)
  have T3 := Lib.hid (T2.out.below hb3)
  clear hb3 B2 S2 T2
  go_wp2_with fail
  have L3 := ints_lits w3 3 [0, 65] 2 rfl
  have L3' := (hrd3.below (below_lits w3 (.cells ([0, 65].map (Value.int .i64)).toArray 3))).more (below_lits w3 (.cells ([0, 65].map (Value.int .i64)).toArray 3)).size
  refine (same_ints A3 _ 2 2 c3 2 _ [0, 65] [0, 65] _ L3' L3 (by decide) (by decide)).mono ?_
  rw [show sameB [0, 65] [0, 65] = true by decide]
  rintro e w4 ⟨rfl, q4, hw4⟩
  have b4 : Below w3.heap.size w3 w4 := by rw [hw4]; exact below_drewN (below_lits w3 _) q4
  have B4 := B3.trans (b4.mono B3.size)
  have S4 := Lib.hid (S3.out.below b4)
  clear hw4 L3 L3' b4 B3 S3 T3 hrd3
  go_wp2_with fail
  refine (set_count S4.out (k := 2) (by rw [q0]; rfl)).mono ?_
  rintro e w' ⟨rfl, rfl⟩
  go_wp2_with fail
  refine (bit_less A1 n1' c1 [1, 2] A1 n1' c1 [1, 2] w4 S4.out.rd S4.out.rd S4.out.word S4.out.word S4.out.cap S4.out.cap S4.out.nil_ S4.out.nil_).mono ?_
  intro e w5 hret
  obtain ⟨ws, A5, n5, c5, rfl, S, hcan, hn5, hb5⟩ := hret.open_
  obtain rfl := canon_one hcan (canon_nil (fun n _ => by simp))
  obtain rfl : n5 = 0 := S.len.symm
  have B5 := B4.trans (hb5.mono B4.size)
  have S5 := Lib.hid (S4.out.below hb5)
  clear hret hcan hb5 S B4 S4
  go_wp2_with fail
  refine (bit_of _ 1 1 _ [0] (by simp) _ (ints_lits w5 3 [0] 1 rfl) (Nat.le_refl _) (by decide)).mono ?_
  intro e w6 hret
  obtain ⟨ws, A6, n6, c6, rfl, R, hcan, hn6, hb6⟩ := hret.open_
  obtain rfl := canon_one hcan p1
  have b6 : Below w5.heap.size w5 w6 := (below_lits w5 _).trans (hb6.mono (by simp))
  have B6 := B5.trans (b6.mono B5.size)
  have S6 := Lib.hid (S5.out.below b6)
  have R6 := Lib.hid R
  clear hret hcan hb6 R B5 S5 b6
  go_wp2_with fail
  refine (bit_meet A1 n1' c1 [1, 2] A6 n6 c6 [1] w6 S6.out.rd R6.out.rd S6.out.word R6.out.word S6.out.cap R6.out.cap S6.out.nil_ R6.out.nil_).mono ?_
  intro e w7 hret
  obtain ⟨ws, A7, n7, c7, rfl, R, hcan, hn7, hb7⟩ := hret.open_
  obtain rfl := canon_one hcan p3
  have B7 := B6.trans (hb7.mono B6.size)
  have S7 := Lib.hid (S6.out.below hb7)
  have R7 := Lib.hid R
  clear hret hcan hb7 R B6 S6 R6
  go_wp2_with fail
  have L7 := warg_lits w7 38 [1] 1 rfl p1.1
  refine (set_same (R7.out.below (below_lits w7 _)) L7 rfl (by omega)).mono ?_
  rintro e w8 ⟨rfl, q8, hw8⟩
  have b8 : Below w7.heap.size w7 w8 := by rw [hw8]; exact below_drewN (below_lits w7 _) q8
  have B8 := B7.trans (b8.mono B7.size)
  have S8 := Lib.hid (S7.out.below b8)
  clear hw8 L7 b8 B7 S7 R7
  go_wp2_with fail
  refine (bit_of _ 1 1 _ [1] (by simp) _ (ints_lits w8 3 [1] 1 rfl) (Nat.le_refl _) (by decide)).mono ?_
  intro e w9 hret
  obtain ⟨ws, A9, n9, c9, rfl, R, hcan, hn9, hb9⟩ := hret.open_
  obtain rfl := canon_one hcan p2
  have b9 : Below w8.heap.size w8 w9 := (below_lits w8 _).trans (hb9.mono (by simp))
  have B9 := B8.trans (b9.mono B8.size)
  have S9 := Lib.hid (S8.out.below b9)
  have R9 := Lib.hid R
  clear hret hcan hb9 R B8 S8 b9
  go_wp2_with fail
  refine (bit_union A1 n1' c1 [1, 2] A9 n9 c9 [2] w9 S9.out.rd R9.out.rd S9.out.word R9.out.word S9.out.cap R9.out.cap S9.out.nil_ R9.out.nil_).mono ?_
  intro e w10 hret
  obtain ⟨ws, A10, n10, c10, rfl, R, hcan, hn10, hb10⟩ := hret.open_
  obtain rfl := canon_one hcan p4
  have B10 := B9.trans (hb10.mono B9.size)
  have R10 := Lib.hid R
  clear hret hcan hb10 R B9 S9 R9
  go_wp2_with fail
  have L10 := warg_lits w10 38 [3, 2] 2 rfl p4.1
  refine (set_same (R10.out.below (below_lits w10 _)) L10 rfl (by omega)).mono ?_
  rintro e w11 ⟨rfl, q11, hw11⟩
  have B11 : Below w.heap.size w w11 := by rw [hw11]; exact B10.trans (below_drewN ((below_lits w10 _).mono B10.size) q11)
  clear hw11 L10 B10 R10
  go_wp2_with fail
  go_ret
  exact ⟨rfl, B11⟩
end Go.Proofs.YtknnalaemndnaaaDoor
