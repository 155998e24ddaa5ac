/- Walks of the laws of tag: tables at hand; what the document gives. -/
import Derived.Test.YtokgcjhlmohjgaaDoorTagH
import Derived.Test.YtokgcjhlmohjgaaDoorSame
namespace Go.Proofs.YtokgcjhlmohjgaaDoor
open Go.RowKit
/-- A table of texts, at hand. -/
structure SArg (w : World) (A : Option Addr) (n c : Nat) (ts : List (List Int)) : Prop where
  rd : Rd w w.heap.size A n (ts.map fun t => .string (strOfNums t))
  bytes : ∀ t ∈ ts, Bytes t
  size : ∀ t ∈ ts, t.length ≤ 9223372036854775807
theorem SArg.below {w w' : World} {A : Option Addr} {n c : Nat} {ts : List (List Int)} (h : SArg w A n c ts) (hb : Below w.heap.size w w') : SArg w' A n c ts := ⟨(h.rd.below hb).more hb.size, h.bytes, h.size⟩
theorem sarg_lits (w : World) (t : Nat) (ts : List (List Int)) (n : Nat) (hn : ts.length = n) (hb : ∀ t ∈ ts, Bytes t) (hs : ∀ t ∈ ts, t.length ≤ 9223372036854775807) :
    SArg (w.alloc (.cells (ts.map fun t => Value.string (strOfNums t)).toArray t)) (some ⟨w.heap.size, 0, none⟩) n n ts := by
  subst hn
  refine ⟨⟨by simp, fun _ => ⟨w.heap.size, 0, rfl, by simp, fun j u hu => ?_⟩⟩, hb, hs⟩
  rw [cell_of_row _ w.heap.size (0 + j) _ _ _ (heap_alloc_new w _)]
  simpa using hu
theorem tag_has (x y : Nat) (w : World) :
    Calls Tryd.prog 16 #[.int .u64 x, .int .u64 y] w fun e w' => e = .returned (.bool (bits .andNot .u64 (y : Int) (x : Int) == 0)) ∧ w = w' := by
  go_enter Tryd.func16, Tryd.ntmps16
  go_wp2
  go_ret
  exact ⟨rfl, rfl⟩
theorem sa_text {w : World} {A : Option Addr} {n c : Nat} {ts : List (List Int)} (h : SArg w A n c ts) (hT : Tz w) (m : Nat) (hm : m < 18446744073709551616) {t : List Int} {y : Int} (e1 : txL ts m = t) (e2 : nmW ts m = y) :
    Calls Tryd.prog 9 #[.slice A n c, .int .u64 m] w fun e w' => e = .returned (.tuple #[.string (strOfNums t), .int .i64 y]) ∧ Below w.heap.size w w' := by
  subst e1 e2; exact tag_text A n c ts h.bytes h.size m hm w h.rd hT
theorem sa_parse {w : World} {A : Option Addr} {n c : Nat} {ts : List (List Int)} (h : SArg w A n c ts) (s : List Int) (hs : Bytes s) (hl : s.length ≤ 4194304) {m : Nat} {y : Int} (e1 : prsM ts s = m) (e2 : prsW ts s = y) :
    Calls Tryd.prog 11 #[.slice A n c, .string (strOfNums s)] w fun e w' => e = .returned (.tuple #[.int .u64 m, .int .i64 y]) ∧ Below w.heap.size w w' := by
  subst e1 e2; exact tag_parse A n c ts h.bytes h.size s hs hl w h.rd
theorem sa_names {w : World} {A : Option Addr} {n c : Nat} {ts : List (List Int)} (h : SArg w A n c ts) (hT : Tz w) (m : Nat) (hm : m < 18446744073709551616) {l : List (List Int)} {y : Int} (e1 : nmL ts m = l) (e2 : nmW ts m = y) :
    Calls Tryd.prog 7 #[.slice A n c, .int .u64 m] w (RetS l y w) := by
  subst e1 e2; exact tag_names A n c ts h.bytes h.size m hm w h.rd hT
theorem sa_check {w : World} {A : Option Addr} {n c : Nat} {ts : List (List Int)} (h : SArg w A n c ts) {y : Int} (e : chkE ts = y) :
    Calls Tryd.prog 13 #[.slice A n c] w fun e w' => e = .returned (.int .i64 y) ∧ Below w.heap.size w w' := by
  subst e; exact tag_check A n c ts h.bytes h.size w h.rd
instance decBytes (l : List Int) : Decidable (Bytes l) := inferInstanceAs (Decidable (∀ b ∈ l, 0 ≤ b ∧ b < 256))
/-- The table a, b, c. -/
def abc : List (List Int) := [[97], [98], [99]]
theorem abc_bytes : ∀ t ∈ abc, Bytes t := by decide
theorem abc_size : ∀ t ∈ abc, t.length ≤ 9223372036854775807 := by decide
theorem abc_tx5 : txL abc 5 = [97, 43, 99] := by decide +kernel
theorem abc_nw5 : nmW abc 5 = 0 := by decide +kernel
theorem abc_tx8 : txL abc 8 = [] := by decide +kernel
theorem abc_nw8 : nmW abc 8 = 6 := by decide +kernel
theorem abc_nm6 : nmL abc 6 = [[98], [99]] := by decide +kernel
theorem abc_nw6 : nmW abc 6 = 0 := by decide +kernel
theorem abc_p1 : prsM abc [97, 43, 99] = 5 ∧ prsW abc [97, 43, 99] = 0 := by decide +kernel
theorem abc_p2 : prsM abc [99, 43, 97] = 0 ∧ prsW abc [99, 43, 97] = 11 := by decide +kernel
theorem abc_p3 : prsM abc [97, 43, 97] = 0 ∧ prsW abc [97, 43, 97] = 10 := by decide +kernel
theorem abc_p4 : prsM abc [97, 43] = 0 ∧ prsW abc [97, 43] = 3 := by decide +kernel
theorem abc_p5 : prsM abc [] = 0 ∧ prsW abc [] = 0 := by decide +kernel
theorem abc_mb : mb 5 = [0, 2] := by decide +kernel
theorem abc_c1 : chkE [[65]] = 7 := by decide +kernel
theorem abc_c2 : chkE [[97], [97]] = 10 := by decide +kernel
theorem abc_h1 : (bits .andNot .u64 ((5 : Nat) : Int) ((7 : Nat) : Int) == 0) = true := by decide +kernel
theorem abc_h2 : (bits .andNot .u64 ((5 : Nat) : Int) ((4 : Nat) : Int) == 0) = false := by decide +kernel
theorem below_lits (w : World) (o : Obj) : Below w.heap.size w (w.alloc o) := (Below.refl _ _).alloc (Nat.le_refl _) _
theorem ints_lits (w : World) (t : Nat) (cs : List Int) (n : Nat) (hn : cs.length = n) : Rd (w.alloc (.cells (cs.map (Value.int .i64)).toArray t)) (w.alloc (.cells (cs.map (Value.int .i64)).toArray t)).heap.size (some ⟨w.heap.size, 0, none⟩) n (cs.map (.int .i64)) := by
  subst hn
  exact IB.rd (g := w.heap.size) (t := t) (cs := cs) ⟨[], by rw [heap_alloc_new]; simp⟩
theorem has_same {xs ys : List (List Int)} (h : xs = ys) : sameT xs ys = true := decide_eq_true h
set_option maxRecDepth 100000 in
set_option maxHeartbeats 4000000 in
theorem lives06 (w : World) (hT : Tz w) : Calls Tryd.prog 6 #[] w fun e w' => e = .returned (.bool true) ∧ Below w.heap.size w w' := by
  have hS := sarg_lits w 9 abc 3 rfl abc_bytes abc_size
  have hB := below_lits w (.cells (abc.map fun t => Value.string (strOfNums t)).toArray 9)
  have HT := Lib.hid (hT.below hB)
  have HS := Lib.hid hS
  have HB := Lib.hid hB
  clear hT hS hB
  have hst : (strOfNums [97, 43, 99]).toList = [97, 43, 99] := by rw [ByteArray.toList_eq]; rfl
  go_enter Tryd.func6, Tryd.ntmps6
  go_wp2_with fail
  have S0 := HS
  have T0 := HT
  have B0 := HB
  clear HS HT HB
  refine (sa_text S0.out T0.out 5 (by decide) abc_tx5 abc_nw5).mono ?_
  rintro e w1 ⟨rfl, hb⟩
  have S1 := Lib.hid (S0.out.below hb)
  have T1 := Lib.hid (T0.out.below hb)
  have B1 := Lib.hid (B0.out.trans (hb.mono B0.out.size))
  clear hb S0 T0 B0
  go_wp2_with fail
  refine (sa_text S1.out T1.out 8 (by decide) abc_tx8 abc_nw8).mono ?_
  rintro e w2 ⟨rfl, hb⟩
  have S2 := Lib.hid (S1.out.below hb)
  have T2 := Lib.hid (T1.out.below hb)
  have B2 := Lib.hid (B1.out.trans (hb.mono B1.out.size))
  clear hb S1 T1 B1
  go_wp2_with fail
  refine (sa_parse S2.out [97, 43, 99] (by decide) (by decide) abc_p1.1 abc_p1.2).mono ?_
  rintro e w3 ⟨rfl, hb⟩
  have S3 := Lib.hid (S2.out.below hb)
  have T3 := Lib.hid (T2.out.below hb)
  have B3 := Lib.hid (B2.out.trans (hb.mono B2.out.size))
  clear hb S2 T2 B2
  go_wp2_with fail
  refine (sa_parse S3.out [99, 43, 97] (by decide) (by decide) abc_p2.1 abc_p2.2).mono ?_
  rintro e w4 ⟨rfl, hb⟩
  have S4 := Lib.hid (S3.out.below hb)
  have T4 := Lib.hid (T3.out.below hb)
  have B4 := Lib.hid (B3.out.trans (hb.mono B3.out.size))
  clear hb S3 T3 B3
  go_wp2_with fail
  refine (sa_parse S4.out [97, 43, 97] (by decide) (by decide) abc_p3.1 abc_p3.2).mono ?_
  rintro e w5 ⟨rfl, hb⟩
  have S5 := Lib.hid (S4.out.below hb)
  have T5 := Lib.hid (T4.out.below hb)
  have B5 := Lib.hid (B4.out.trans (hb.mono B4.out.size))
  clear hb S4 T4 B4
  go_wp2_with fail
  refine (sa_parse S5.out [97, 43] (by decide) (by decide) abc_p4.1 abc_p4.2).mono ?_
  rintro e w6 ⟨rfl, hb⟩
  have S6 := Lib.hid (S5.out.below hb)
  have T6 := Lib.hid (T5.out.below hb)
  have B6 := Lib.hid (B5.out.trans (hb.mono B5.out.size))
  clear hb S5 T5 B5
  go_wp2_with fail
  refine (sa_names S6.out T6.out 6 (by decide) abc_nm6 abc_nw6).mono ?_
  rintro e w7 ⟨⟨A7, c7, rfl, hc7, hr7⟩, hb⟩
  have S7 := Lib.hid (S6.out.below hb)
  have T7 := Lib.hid (T6.out.below hb)
  have B7 := Lib.hid (B6.out.trans (hb.mono B6.out.size))
  have R7 := Lib.hid hr7
  clear hr7 hc7
  clear hb S6 T6 B6
  go_wp2_with fail
  refine (sa_parse S7.out [] (by decide) (by decide) abc_p5.1 abc_p5.2).mono ?_
  rintro e w8 ⟨rfl, hb⟩
  have S8 := Lib.hid (S7.out.below hb)
  have T8 := Lib.hid (T7.out.below hb)
  have B8 := Lib.hid (B7.out.trans (hb.mono B7.out.size))
  have R8 := Lib.hid ((R7.out.below hb).more hb.size)
  clear hb S7 T7 B7
  go_wp2_with fail
  have L9 := sarg_lits w8 9 [[98], [99]] 2 rfl (by decide) (by decide)
  have b9 := below_lits w8 (.cells ([[98], [99]].map fun t => Value.string (strOfNums t)).toArray 9)
  have R9 := (R8.out.below b9).more b9.size
  refine (ref_texts A7 _ 2 2 c7 2 _ _ [[98], [99]] [[98], [99]] (by decide) (by decide) _ R9 L9.rd (by decide) (by decide)).mono ?_
  rw [has_same rfl]
  rintro e w9 ⟨rfl, q9, hw9⟩
  have b10 : Below w8.heap.size w8 w9 := by rw [hw9]; exact below_drewN b9 q9
  have S9 := Lib.hid (S8.out.below b10)
  have T9 := Lib.hid (T8.out.below b10)
  have B9 := Lib.hid (B8.out.trans (b10.mono B8.out.size))
  clear hw9 b9 R9 L9 b10 S8 T8 B8 R8 R7
  go_wp2_with fail
  have hh1 := tag_has 7 5 w9
  have hh2 := tag_has 4 5 w9
  rw [abc_h1] at hh1
  rw [abc_h2] at hh2
  refine hh1.mono ?_
  rintro e w' ⟨rfl, rfl⟩
  go_wp2_with fail
  refine hh2.mono ?_
  rintro e w' ⟨rfl, rfl⟩
  go_wp2_with fail
  have hbt := tag_bits 5 (by decide) w9 T9.out
  rw [abc_mb] at hbt
  refine hbt.mono ?_
  rintro e w10 ⟨⟨Ab, cb, rfl, hcb, hrb⟩, hb⟩
  have T10 := Lib.hid (T9.out.below hb)
  have B10 := Lib.hid (B9.out.trans (hb.mono B9.out.size))
  have R10 := Lib.hid hrb
  clear hb hcb hrb hbt S9 T9 B9 hh1 hh2
  go_wp2_with fail
  have L11 := ints_lits w10 3 [0, 2] 2 rfl
  have b11 := below_lits w10 (.cells ([0, 2].map (Value.int .i64)).toArray 3)
  have R11 := (R10.out.below b11).more b11.size
  refine (same_ints Ab _ 2 2 cb 2 _ [0, 2] [0, 2] _ R11 L11 (by decide) (by decide)).mono ?_
  rw [show sameB [0, 2] [0, 2] = true by decide]
  rintro e w11 ⟨rfl, q11, hw11⟩
  have b12 : Below w10.heap.size w10 w11 := by rw [hw11]; exact below_drewN b11 q11
  have B11 := Lib.hid (B10.out.trans (b12.mono B10.out.size))
  clear hw11 b11 R11 L11 b12 T10 B10 R10
  go_wp2_with fail
  have b13 := below_lits w11 (.cells ([[65]].map fun t => Value.string (strOfNums t)).toArray 9)
  refine (sa_check (sarg_lits w11 9 [[65]] 1 rfl (by decide) (by decide)) abc_c1).mono ?_
  rintro e w12 ⟨rfl, hb⟩
  have B12 := Lib.hid (B11.out.trans ((b13.trans (hb.mono b13.size)).mono B11.out.size))
  clear hb b13 B11
  go_wp2_with fail
  have b14 := below_lits w12 (.cells ([[97], [97]].map fun t => Value.string (strOfNums t)).toArray 9)
  refine (sa_check (sarg_lits w12 9 [[97], [97]] 2 rfl (by decide) (by decide)) abc_c2).mono ?_
  rintro e w13 ⟨rfl, hb⟩
  have B13 := Lib.hid (B12.out.trans ((b14.trans (hb.mono b14.size)).mono B12.out.size))
  clear hb b14 B12
  go_wp2_with fail
  go_ret
  exact ⟨rfl, B13.out⟩
end Go.Proofs.YtokgcjhlmohjgaaDoor
