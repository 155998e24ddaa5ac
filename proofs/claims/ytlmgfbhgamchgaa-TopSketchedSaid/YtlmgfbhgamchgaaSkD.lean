/- Recall of one hit. -/
import Derived.Test.YtlmgfbhgamchgaaSkC
import Derived.WideKeyEntry
import Derived.DeepKeys4
import Derived.Lib.Hide
import Derived.Deep.WholeRow
namespace Go.Proofs.Ytlmgfbhgamchgaa
open Go.RowKit
open Go.ChangeShapes Go.WideShapes Go.MapKept Go.ChangeMaps
open Go.WideMaps (KeyLaw)
theorem laidOutP : laidOutB Try.prog = true := by kernel_rfl
theorem hitRow : (52 : TypeId) < Try.prog.types.size := of_decide_eq_true (by kernel_rfl)
theorem hitWide : (match Try.prog.underlying 52 with | some (.array _ _) | some (.struct _) => true | _ => false) = true := by kernel_rfl
set_option maxRecDepth 100000 in
theorem hitLaw : KeyLaw Try.prog 52 := deep_law_laid laidOutP (m := 2) (by omega) hitRow (by kernel_rfl) hitWide
def hitV : Value := .agg #[.int .u64 0, .int .u64 1]
theorem hitKey : ∃ l, keyOf Try.prog 52 hitV = some l := by
  cases h : keyOf Try.prog 52 hitV with
  | some l => exact ⟨l, rfl⟩
  | none =>
    have : (keyOf Try.prog 52 hitV).isSome = true := by kernel_rfl
    rw [h] at this; cases this
theorem zeroIn (w : World) : (zeroValue 3).run Try.prog w = .ok (.int .i64 0) w := by
  have h : (Try.prog.info? 3).map (fun i => (i.zero, i.size)) = some (some (.int .i64 0), 1) := by kernel_rfl
  exact (zero_of_info h).1 w
theorem find_none (w : World) : (Instr.findKey 52 hitV []).run Try.prog w = .ok none w := by
  obtain ⟨l, hl⟩ := hitKey
  rcases hitLaw.find w hl [] (fun e he => by cases he) with ⟨h, _⟩ | ⟨j, e, _, h, _⟩
  · exact h
  · simp at h
theorem find_one (w : World) (v : Value) : (Instr.findKey 52 hitV [⟨hitV, v, 0⟩]).run Try.prog w = .ok (some (0, v)) w := by
  obtain ⟨l, hl⟩ := hitKey
  rcases hitLaw.find w hl [⟨hitV, v, 0⟩] (fun e he => by simp at he; subst he; exact ⟨l, hl⟩) with ⟨_, h⟩ | ⟨j, e, h1, h2, _⟩
  · exact absurd rfl (h ⟨hitV, v, 0⟩ (by simp))
  · cases j with
    | zero => simp at h2; subst h2; exact h1
    | succ j => simp at h2
theorem hit_lookup0 {w : World} {b : Nat} (hb : w.heap[b]? = some (.map #[] 0)) : (Instr.lookup 82 (.map (some b)) hitV false).run Try.prog w = .ok (.int .i64 0) w := by
  obtain ⟨l, hl⟩ := hitKey
  simp [Instr.lookup, run_underlying Try.underlying82, MapKept.run_getObj_map hb, hitLaw.check w true hl, find_none, Result.andThen]
theorem hit_lookup1 {w : World} {b : Nat} {v : Value} {cl : Nat} (hb : w.heap[b]? = some (.map #[⟨hitV, v, 0⟩] cl)) : (Instr.lookup 82 (.map (some b)) hitV false).run Try.prog w = .ok v w := by
  obtain ⟨l, hl⟩ := hitKey
  simp [Instr.lookup, run_underlying Try.underlying82, MapKept.run_getObj_map hb, hitLaw.check w false hl, find_one, Result.andThen]
theorem hit_entry {w : World} {b : Nat} (hb : w.heap[b]? = some (.map #[] 0)) : (Instr.mapEntry 82 (.map (some b)) hitV).run Try.prog w = .ok (.tuple #[.int .i64 0, .int .i64 0]) (setBlock w b (.map #[⟨hitV, .int .i64 0, 0⟩] 1)) := by
  obtain ⟨l, hl⟩ := hitKey
  simp [Instr.mapEntry, run_underlying Try.underlying82, MapKept.run_getObj_map hb, hitLaw.check w false hl, find_none, MapKept.run_setObj_map _ hb, Result.andThen, setBlock, goInt]
theorem hit_store {w : World} {b : Nat} {v0 v : Value} (hb : w.heap[b]? = some (.map #[⟨hitV, v0, 0⟩] 1)) : (Instr.entryStore 82 (.map (some b)) (.int .i64 0) v).run Try.prog w = .ok () (setBlock w b (.map #[⟨hitV, v, 0⟩] 1)) := by
  have hidx : (#[⟨hitV, v0, 0⟩] : Array MapEntry).findIdx? (fun e => ((e.born : Nat) : Int) == 0) = some 0 := by
    simp [Array.findIdx?, Array.findIdx?.loop]
  simp [Instr.entryStore, MapKept.run_getObj_map hb, asInt, asIntOf, hidx, MapKept.run_setObj_map _ hb, Result.andThen, setBlock]
theorem block_setBlock (w : World) (b k : Nat) (o : Obj) (h : k ≠ b) : (setBlock w b o).heap[k]? = w.heap[k]? := by
  show (w.heap.setIfInBounds b o)[k]? = _
  rw [Array.getElem?_setIfInBounds, if_neg (fun e => h e.symm)]
theorem block_setBlock_same (w : World) (b : Nat) (o : Obj) (h : b < w.heap.size) : (setBlock w b o).heap[b]? = some o := by
  show (w.heap.setIfInBounds b o)[b]? = _
  rw [Array.getElem?_setIfInBounds]; simp [h]
theorem below_setBlock {B : Nat} {w0 w : World} (h : Below B w0 w) (b : Nat) (o : Obj) (hb : B ≤ b) : Below B w0 (setBlock w b o) :=
  ⟨h.os, h.tape, h.output, by show _ ≤ (w.heap.setIfInBounds b o).size; rw [Array.size_setIfInBounds]; exact h.size, fun k hk => (block_setBlock w b k o (by omega)).trans (h.block k hk)⟩
set_option maxRecDepth 100000 in
theorem rc_set (b c : Nat) (w : World) (hb : b < w.heap.size) (h0 : w.cell? ⟨b, 0, none⟩ = some (.int .u64 0)) (h1 : w.cell? ⟨b, 1, none⟩ = some (.int .u64 1)) :
    Calls Try.prog 45 #[.slice (some ⟨b, 0, none⟩) 1 c] w fun e w' => (∃ M, e = .returned (.map (some M)) ∧ w'.heap[M]? = some (.map #[⟨hitV, .int .i64 1, 0⟩] 1)) ∧ Below w.heap.size w w' := by
  have hmm := fun w => run_makeMap (P := Try.prog) 82 w
  go_enter Try.func45, Try.ntmps45
  go_wp2_with fail
  have B1 : Below w.heap.size w (w.alloc (.map #[] 0)) := (Below.refl _ w).alloc (Nat.le_refl _) _
  have hM : (w.alloc (.map #[] 0)).heap[w.heap.size]? = some (.map #[] 0) := heap_alloc_new w _
  have x0 := (B1.cell (p := ⟨b, 0, none⟩) hb).trans h0
  have x1 := (B1.cell (p := ⟨b, 1, none⟩) hb).trans h1
  obtain ⟨w1, hw1⟩ : ∃ x, w.alloc (.map #[] 0) = x := ⟨_, rfl⟩
  rw [hw1] at B1 hM x0 x1 ⊢
  have HM := Lib.hid hM
  have HB1 := Lib.hid B1
  clear hw1 h0 h1 hmm hM B1
  go_loopw [9] (fun i wx => (i = .int .i64 0 ∧ w1 = wx) ∨ (i = .int .i64 1 ∧ Hid (wx.heap[w.heap.size]? = some (.map #[⟨hitV, .int .i64 1, 0⟩] 1)) ∧ Hid (Below w.heap.size w wx))) (fun i _ => 1 - (intOf i).toNat)
  case atStart => exact .inl ⟨rfl, rfl⟩
  case round =>
    rcases hrel with ⟨rfl, rfl⟩ | ⟨rfl, hm, hbx⟩
    · go_wp2_with fail
      have hs1 := HB1.out.size
      have hM1 : (w1.alloc (.cells #[.int .u64 0, .int .u64 1] 52)).heap[w.heap.size]? = some (.map #[] 0) := (Below.heap_alloc w1 _ _ (Array.getElem?_eq_some_iff.1 HM.out).1).trans HM.out
      have hlt := (Array.getElem?_eq_some_iff.1 HM.out).1
      have hbx : Blk (w1.alloc (.cells #[.int .u64 0, .int .u64 1] 52)) w1.heap.size 52 #[.int .u64 0, .int .u64 1] := Blk.new w1 _ _
      have HB2 := HB1.out.alloc (o := .cells #[.int .u64 0, .int .u64 1] 52) hs1
      obtain ⟨W, hW⟩ : ∃ x, w1.alloc (.cells #[.int .u64 0, .int .u64 1] 52) = x := ⟨_, rfl⟩
      rw [hW] at hM1 hbx HB2 ⊢
      have e1 := hit_lookup0 (w := W.drew) hM1
      have e2 := hit_entry (w := W.drew) hM1
      have hM2 := block_setBlock_same W.drew w.heap.size (.map #[⟨hitV, .int .i64 0, 0⟩] 1) (Array.getElem?_eq_some_iff.1 hM1).1
      have hbx2 : Blk (setBlock W.drew w.heap.size (.map #[⟨hitV, .int .i64 0, 0⟩] 1)) w1.heap.size 52 #[.int .u64 0, .int .u64 1] := (block_setBlock W.drew w.heap.size _ _ (by omega)).trans hbx
      have HB3 := below_setBlock (below_drewN HB2 1) w.heap.size (.map #[⟨hitV, .int .i64 0, 0⟩] 1) (Nat.le_refl _)
      obtain ⟨W2, hW2⟩ : ∃ x, setBlock W.drew w.heap.size (.map #[⟨hitV, .int .i64 0, 0⟩] 1) = x := ⟨_, rfl⟩
      rw [show (W.drewN 1) = W.drew from rfl, hW2] at HB3
      rw [hW2] at e2 hM2 hbx2
      have e3 := hit_lookup1 hM2
      have e4 := hit_store (v := .int .i64 1) hM2
      have hM3 := Lib.hid (block_setBlock_same W2 w.heap.size (.map #[⟨hitV, .int .i64 1, 0⟩] 1) (Array.getElem?_eq_some_iff.1 hM2).1)
      have HB4 := Lib.hid (below_setBlock HB3 w.heap.size (.map #[⟨hitV, .int .i64 1, 0⟩] 1) (Nat.le_refl _))
      have e5 := e4
      rw [show Value.int .i64 1 = Value.int .i64 (IntKind.i64.wrap 1) by rw [show IntKind.i64.wrap 1 = 1 by decide]] at e5
      have hw : setBlock W2 w.heap.size (.map #[⟨hitV, .int .i64 (IntKind.i64.wrap 1), 0⟩] 1) = setBlock W2 w.heap.size (.map #[⟨hitV, .int .i64 1, 0⟩] 1) := by rw [show IntKind.i64.wrap 1 = 1 by decide]
      rw [hw] at e5
      unfold hitV at e1 e2 e3 e4 e5
      have y0 : W.drew.cell? ⟨w1.heap.size, 0, none⟩ = some (.int .u64 0) := hbx.cell 0
      have y1 : W.drew.cell? ⟨w1.heap.size, 1, none⟩ = some (.int .u64 1) := hbx.cell 1
      have z0 : W2.cell? ⟨w1.heap.size, 0, none⟩ = some (.int .u64 0) := hbx2.cell 0
      have z1 : W2.cell? ⟨w1.heap.size, 1, none⟩ = some (.int .u64 1) := hbx2.cell 1
      clear hW hW2 hM1 hbx HB2 hM2 hbx2 HB3 HM HB1
      clear hw
      go_region_law (fail)
      all_goals (
        go_wp2
        go_roundw
        case rel => exact .inr ⟨rfl, hM3, HB4⟩
        case measure => simp [intOf])
    · go_wp2_with fail
      go_ret
      exact ⟨⟨_, rfl, hm.out⟩, hbx.out⟩
theorem rc_first (b c : Nat) (w : World) (hc : 1 ≤ c) :
    Calls Try.prog 46 #[.slice (some ⟨b, 0, none⟩) 1 c, .int .i64 1] w fun e w' => e = .returned (.slice (some ⟨b, 0, none⟩) 1 c) ∧ w = w' := by
  go_enter Try.func46, Try.ntmps46
  go_wp2_with fail
  go_ret
  exact ⟨rfl, rfl⟩
set_option maxRecDepth 100000 in
set_option maxHeartbeats 1000000 in
theorem rc_count (b c b' c' : Nat) (w : World) (hb : b < w.heap.size) (h0 : w.cell? ⟨b, 0, none⟩ = some (.int .u64 0)) (h1 : w.cell? ⟨b, 1, none⟩ = some (.int .u64 1)) (hc : 1 ≤ c) (hc' : 1 ≤ c')
    (hb' : b' < w.heap.size) (h0' : w.cell? ⟨b', 0, none⟩ = some (.int .u64 0)) (h1' : w.cell? ⟨b', 1, none⟩ = some (.int .u64 1)) :
    Calls Try.prog 21 #[.slice (some ⟨b, 0, none⟩) 1 c, .slice (some ⟨b', 0, none⟩) 1 c', .int .i64 1] w fun e w' => e = .returned (.tuple #[.int .i64 1, .int .i64 1]) ∧ Below w.heap.size w w' := by
  have HF1 := Lib.hid (rc_first b c w hc)
  have HF2 := Lib.hid (fun w => rc_first b' c' w hc')
  have HS := Lib.hid (rc_set b c w hb h0 h1)
  clear h0 h1 hb hc hc'
  go_enter Try.func21, Try.ntmps21
  go_wp2_with fail
  refine HF1.out.mono ?_
  rintro e w' ⟨rfl, rfl⟩
  go_wp2_with fail
  refine HS.out.mono ?_
  rintro e w1 ⟨⟨M, rfl, hM⟩, hb1⟩
  have x0 := (hb1.cell (p := ⟨b', 0, none⟩) hb').trans h0'
  have x1 := (hb1.cell (p := ⟨b', 1, none⟩) hb').trans h1'
  have HM := Lib.hid hM
  have HB1 := Lib.hid hb1
  clear hM hb1 h0' h1' HF1 HS hb'
  go_wp2_with fail
  refine (HF2.out _).mono ?_
  rintro e w' ⟨rfl, rfl⟩
  clear HF2
  go_wp2_with fail
  go_loopw [9, 22] (fun v i wx => (i = .int .i64 0 ∧ v = .int .i64 0 ∧ w1 = wx) ∨ (i = .int .i64 1 ∧ v = .int .i64 1 ∧ Hid (Below w.heap.size w wx))) (fun _ i _ => 1 - (intOf i).toNat)
  case atStart => exact .inl ⟨rfl, rfl, rfl⟩
  case round =>
    rcases hrel with ⟨rfl, rfl, rfl⟩ | ⟨rfl, rfl, hbx⟩
    · have hM1 : (w1.alloc (.cells #[.int .u64 0, .int .u64 1] 52)).heap[M]? = some (.map #[⟨hitV, .int .i64 1, 0⟩] 1) := (Below.heap_alloc w1 _ _ (Array.getElem?_eq_some_iff.1 HM.out).1).trans HM.out
      have e1 := hit_lookup1 hM1
      have HB2 := Lib.hid (HB1.out.alloc (o := .cells #[.int .u64 0, .int .u64 1] 52) HB1.out.size)
      unfold hitV at e1
      clear hM1
      go_wp2_with fail
      go_roundw
      case rel => exact .inr ⟨rfl, by go_num, HB2⟩
      case measure => simp [intOf]
    · go_wp2_with fail
      refine bodyPost_ret (v := .tuple #[.int .i64 1, .int .i64 1]) (by simp [results, Try.results21, go_sem]) rfl ?_
      exact ⟨rfl, hbx.out⟩
theorem setAt_one (w : World) (t : Nat) (x : Nat) (h0 : 0 < x) (hx : x < 18446744073709551616) :
    SetAt (w.alloc (.cells #[.int .u64 (x : Int)] t)) (hasB [(x : Int)]) (some ⟨w.heap.size, 0, none⟩) 1 1 [(x : Int)] :=
  ⟨rfl, Nat.le_refl _, (fun h => nomatch h), ⟨(fun z hz => by simp at hz; subst hz; exact word_of_nat hx), (by show 1 ≤ 64; decide), (fun _ _ => rfl), .inr (by show (x : Int) ≠ 0; omega)⟩,
   IB.rd (g := w.heap.size) (t := t) (cs := [(x : Int)]) ⟨[], by rw [heap_alloc_new]; simp⟩⟩
theorem ap12 : apN (hasB [((1 : Nat) : Int)]) (hasB [((2 : Nat) : Int)]) = 2 := by decide +kernel
set_option maxRecDepth 100000 in
set_option maxHeartbeats 1000000 in
theorem begins22_any (w : World) : Calls Try.prog 5 #[] w fun e w' => e = .returned (.bool true) ∧ Below w.heap.size w w' := by
  go_enter Try.func5, Try.ntmps5
  go_wp2_with fail
  have k1 := (Blk.new w 52 #[.int .u64 0, .int .u64 1]).alloc (.cells #[.int .u64 0, .int .u64 1] 52)
  have k2 := Blk.new (w.alloc (.cells #[.int .u64 0, .int .u64 1] 52)) 52 #[.int .u64 0, .int .u64 1]
  have B1 : Below w.heap.size w (w.alloc (.cells #[.int .u64 0, .int .u64 1] 52)) := (Below.refl _ w).alloc (Nat.le_refl _) _
  have B2 := B1.alloc (o := .cells #[.int .u64 0, .int .u64 1] 52) B1.size
  rw [show (w.alloc (.cells #[.int .u64 0, .int .u64 1] 52)).heap.size = w.heap.size + 1 by simp only [World.alloc, Array.size_push]] at k2
  obtain ⟨w2, hw2⟩ : ∃ x, (w.alloc (.cells #[.int .u64 0, .int .u64 1] 52)).alloc (.cells #[.int .u64 0, .int .u64 1] 52) = x := ⟨_, rfl⟩
  rw [hw2] at k1 k2 B2 ⊢
  refine (rc_count w.heap.size 1 (w.heap.size + 1) 1 w2 k1.lt (k1.cell 0) (k1.cell 1) (Nat.le_refl _) (Nat.le_refl _) k2.lt (k2.cell 0) (k2.cell 1)).mono ?_
  rintro e w3 ⟨rfl, hb⟩
  have B3 := B2.trans (hb.mono B2.size)
  clear k1 k2 B1 B2 hw2 hb
  go_wp2_with fail
  have s1 := setAt_one w3 23 1 (by decide) (by decide)
  have b4 : Below w.heap.size w (w3.alloc (.cells #[.int .u64 ((1 : Nat) : Int)] 23)) := B3.alloc B3.size _
  have hs : (w3.alloc (.cells #[.int .u64 ((1 : Nat) : Int)] 23)).heap.size = w3.heap.size + 1 := by simp only [World.alloc, Array.size_push]
  have s2 := setAt_one (w3.alloc (.cells #[.int .u64 ((1 : Nat) : Int)] 23)) 23 2 (by decide) (by decide)
  have b5 := b4.alloc (o := .cells #[.int .u64 ((2 : Nat) : Int)] 23) b4.size
  have s1' := s1.below ((Below.refl _ (w3.alloc (.cells #[.int .u64 ((1 : Nat) : Int)] 23))).alloc (Nat.le_refl _) (.cells #[.int .u64 ((2 : Nat) : Int)] 23))
  rw [hs] at s2
  have ha := sk_apart s1' s2
  rw [ap12] at ha
  refine ha.mono ?_
  rintro e w4 ⟨rfl, hb⟩
  have B6 := b5.trans (hb.mono b5.size)
  clear ha s1 s2 s1' hb b4 b5 B3 hs
  go_wp2_with fail
  go_ret
  exact ⟨rfl, B6⟩
theorem abN_has {a : List Int} {seed : Int} {N i : Nat} {ws : List Int} (h : Canon (abN a seed N) ws) (hi : i < N) (hN : N ≤ 4096) : hasE ws i = abB a seed i := by
  unfold hasE
  rw [Int.toNat_natCast, h.2.2.1 i (by omega), decide_eq_true (by omega)]
  unfold abN
  rw [decide_eq_true hi]; rfl
set_option maxRecDepth 100000 in
set_option maxHeartbeats 4000000 in
theorem topSketched_walk {w : World} {A B : Option Addr} {n c m d : Nat} {a b : List Int} (ha : VArg w A n c a) (hb : VArg w B m d b) (hn : n ≤ 50) (hm : m ≤ 50) (seed : Int) (N M : Nat) (hN : N ≤ M) (hM : M ≤ 200) :
    Calls Try.prog 3 #[.slice A n c, .slice B m d, .int .u64 seed, .int .i64 N, .int .i64 M] w fun e w' => e = .returned (.bool true) ∧ Below w.heap.size w w' := by
  have t1 : decide ((n : Int) > 50) = false := by simp; omega
  have t2 : decide ((m : Int) > 50) = false := by simp; omega
  have t3 : decide ((N : Int) < 0) = false := by simp
  have t4 : decide ((N : Int) > 200) = false := by simp; omega
  have t5 : decide ((M : Int) < (N : Int)) = false := by simp; omega
  have t6 : decide ((M : Int) > 200) = false := by simp; omega
  have HN := Lib.hid hN
  have HM := Lib.hid hM
  have HA := Lib.hid ha
  have HB := Lib.hid hb
  clear ha hb hn hm hN hM
  go_enter Try.func3, Try.ntmps3
  go_wp2_with fail
  refine (begins22_any w).mono ?_
  rintro e w1 ⟨rfl, hb⟩
  have B1 := Lib.hid hb
  have A1 := Lib.hid (HA.out.below hb)
  have V1 := Lib.hid (HB.out.below hb)
  clear hb HA HB
  go_wp2_with fail
  refine (sk_of A1.out seed N (Nat.le_trans HN.out (Nat.le_trans HM.out (by decide)))).mono ?_
  rintro e w2 ⟨⟨Xa, xn, xc, xw, rfl, hX⟩, hb⟩
  have B2 := Lib.hid (B1.out.trans (hb.mono B1.out.size))
  have A2 := Lib.hid (A1.out.below hb)
  have V2 := Lib.hid (V1.out.below hb)
  have X2 := Lib.hid hX
  clear hb A1 V1 B1 hX
  go_wp2_with fail
  refine (sk_of V2.out seed N (Nat.le_trans HN.out (Nat.le_trans HM.out (by decide)))).mono ?_
  rintro e w3 ⟨⟨Ya, yn, yc, yw, rfl, hY⟩, hb⟩
  have B3 := Lib.hid (B2.out.trans (hb.mono B2.out.size))
  have A3 := Lib.hid (A2.out.below hb)
  have V3 := Lib.hid (V2.out.below hb)
  have X3 := Lib.hid (X2.out.below hb)
  have Y3 := Lib.hid hY
  clear hb A2 V2 B2 X2 hY
  go_wp2_with fail
  refine (sk_of A3.out seed M (Nat.le_trans HM.out (by decide))).mono ?_
  rintro e w4 ⟨⟨Pa, pn, pc, pw, rfl, hP⟩, hb⟩
  have B4 := Lib.hid (B3.out.trans (hb.mono B3.out.size))
  have A4 := Lib.hid (A3.out.below hb)
  have V4 := Lib.hid (V3.out.below hb)
  have X4 := Lib.hid (X3.out.below hb)
  have Y4 := Lib.hid (Y3.out.below hb)
  have P4 := Lib.hid hP
  clear hb A3 V3 B3 X3 Y3 hP
  go_wp2_with fail
  refine (sk_of V4.out seed M (Nat.le_trans HM.out (by decide))).mono ?_
  rintro e w5 ⟨⟨Qa, qn, qc, qw, rfl, hQ⟩, hb⟩
  have B5 := Lib.hid (B4.out.trans (hb.mono B4.out.size))
  have A5 := Lib.hid (A4.out.below hb)
  have V5 := Lib.hid (V4.out.below hb)
  have X5 := Lib.hid (X4.out.below hb)
  have Y5 := Lib.hid (Y4.out.below hb)
  have P5 := Lib.hid (P4.out.below hb)
  have Q5 := Lib.hid hQ
  clear hb A4 V4 B4 X4 Y4 P4 hQ
  go_wp2_with fail
  have hvs := vec_same A5.out V5.out
  by_cases hab : a = b
  focus
    rw [show sameV a b = true from decide_eq_true hab] at hvs
    refine hvs.mono ?_
    rintro e w6 ⟨rfl, q6, rfl⟩
    have hz1 : apN (abN a seed N) (abN b seed N) = 0 := by rw [hab]; exact apN_same fun _ _ => rfl
    have hz2 : apN (abN a seed M) (abN b seed M) = 0 := by rw [hab]; exact apN_same fun _ _ => rfl
    have b6 := below_drewN (Below.refl w5.heap.size w5) q6
    have Z1 := sk_apart (X5.out.below b6) (Y5.out.below b6)
    rw [hz1] at Z1
    have HZ2 := Lib.hid hz2
    clear hvs hz1 hz2 hab
    have B6 := Lib.hid (B5.out.trans (b6.mono B5.out.size))
    have X6 := Lib.hid (X5.out.below b6)
    have Y6 := Lib.hid (Y5.out.below b6)
    have P6 := Lib.hid (P5.out.below b6)
    have Q6 := Lib.hid (Q5.out.below b6)
    clear b6 B5 A5 V5 X5 Y5 P5 Q5
    go_wp2_with fail
    refine Z1.mono ?_
    rintro e w7 ⟨rfl, hb⟩
    have B7 := Lib.hid (B6.out.trans (hb.mono B6.out.size))
    have X7 := Lib.hid (X6.out.below hb)
    have Y7 := Lib.hid (Y6.out.below hb)
    have P7 := Lib.hid (P6.out.below hb)
    have Q7 := Lib.hid (Q6.out.below hb)
    clear hb Z1 B6 X6 Y6 P6 Q6
    go_wp2_with fail
    have Z2 := sk_apart P7.out Q7.out
    rw [HZ2.out] at Z2
    refine Z2.mono ?_
    rintro e w8 ⟨rfl, hb⟩
    have B8 := Lib.hid (B7.out.trans (hb.mono B7.out.size))
    have X8 := Lib.hid (X7.out.below hb)
    have Y8 := Lib.hid (Y7.out.below hb)
    have P8 := Lib.hid (P7.out.below hb)
    have Q8 := Lib.hid (Q7.out.below hb)
    clear hb Z2 B7 X7 Y7 P7 Q7 HZ2
    go_wp2_with fail
  rotate_left 1
  focus
    rw [show sameV a b = false from decide_eq_false hab] at hvs
    refine hvs.mono ?_
    rintro e w8 ⟨rfl, q6, hw8⟩
    have b6 : Below w5.heap.size w5 w8 := by rw [hw8]; exact below_drewN (Below.refl w5.heap.size w5) q6
    clear hw8
    have B8 := Lib.hid (B5.out.trans (b6.mono B5.out.size))
    have X8 := Lib.hid (X5.out.below b6)
    have Y8 := Lib.hid (Y5.out.below b6)
    have P8 := Lib.hid (P5.out.below b6)
    have Q8 := Lib.hid (Q5.out.below b6)
    clear b6 B5 A5 V5 X5 Y5 P5 Q5 hvs hab
    go_wp2_with fail
  all_goals (
    go_loopw [76] (fun i wx => ∃ k : Nat, k ≤ N ∧ i = .int .i64 k ∧ w8 = wx) (fun i _ => N - (intOf i).toNat)
    case atStart => exact ⟨0, Nat.zero_le _, rfl, rfl⟩
    case round =>
      obtain ⟨k, hk, rfl, rfl⟩ := hrel
      have hNM := HN.out
      have hM2 := HM.out
      by_cases hlt : k < N
      · have e1 := bit_has Xa xn xc xw w8.heap.size k (by omega) w8 X8.out.rd X8.out.can.1 X8.out.cap X8.out.nil
        have e2 := bit_has Pa pn pc pw w8.heap.size k (by omega) w8 P8.out.rd P8.out.can.1 P8.out.cap P8.out.nil
        have e3 := bit_has Ya yn yc yw w8.heap.size k (by omega) w8 Y8.out.rd Y8.out.can.1 Y8.out.cap Y8.out.nil
        have e4 := bit_has Qa qn qc qw w8.heap.size k (by omega) w8 Q8.out.rd Q8.out.can.1 Q8.out.cap Q8.out.nil
        rw [abN_has X8.out.can hlt (by omega)] at e1
        rw [abN_has P8.out.can (by omega) (by omega)] at e2
        rw [abN_has Y8.out.can hlt (by omega)] at e3
        rw [abN_has Q8.out.can (by omega) (by omega)] at e4
        obtain ⟨v1, hv1⟩ : ∃ v, abB a seed k = v := ⟨_, rfl⟩
        obtain ⟨v2, hv2⟩ : ∃ v, abB b seed k = v := ⟨_, rfl⟩
        rw [hv1] at e1 e2
        rw [hv2] at e3 e4
        have q1 : (v1 != v1) = false := by cases v1 <;> rfl
        have q2 : (v2 != v2) = false := by cases v2 <;> rfl
        have E1 := Lib.hid e1
        have E2 := Lib.hid e2
        have E3 := Lib.hid e3
        have E4 := Lib.hid e4
        clear e1 e2 e3 e4 hv1 hv2
        go_wp2_with fail
        refine E1.out.mono ?_
        rintro e w' ⟨rfl, rfl⟩
        go_wp2_with fail
        refine E2.out.mono ?_
        rintro e w' ⟨rfl, rfl⟩
        go_wp2_with fail
        refine E3.out.mono ?_
        rintro e w' ⟨rfl, rfl⟩
        go_wp2_with fail
        refine E4.out.mono ?_
        rintro e w' ⟨rfl, rfl⟩
        go_wp2_with fail
        go_roundw
        case rel => exact ⟨k + 1, hlt, by go_num, trivial⟩
        case measure => simp [intOf]; omega
      · obtain rfl : k = N := by omega
        have hgrow := apN_grow (a := a) (b := b) (seed := seed) hNM
        have hle := apN_le (a := a) (b := b) (seed := seed) (M := M) (by omega)
        obtain ⟨D1, hD1⟩ : ∃ x, apN (abN a seed k) (abN b seed k) = x := ⟨_, rfl⟩
        obtain ⟨D2, hD2⟩ : ∃ x, apN (abN a seed M) (abN b seed M) = x := ⟨_, rfl⟩
        rw [hD1, hD2] at hgrow
        rw [hD2] at hle
        have HD1 := Lib.hid hD1
        have HD2 := Lib.hid hD2
        have tg : decide ((D1 : Int) ≤ (D2 : Int)) = true := by simp; omega
        have tl : decide ((D2 : Int) ≤ (M : Int)) = true := by simp; omega
        have tg2 : decide (D1 ≤ D2) = true := decide_eq_true hgrow
        have tl2 : decide (D2 ≤ M) = true := decide_eq_true hle
        clear hD1 hD2 hk hlt hNM hM2
        go_wp2_with fail
        have b9 := (Below.refl w8.heap.size w8).alloc (Nat.le_refl _) (.cells #[.slice Pa pn pc, .slice Qa qn qc] 25)
        have K9 := Blk.new w8 25 #[.slice Pa pn pc, .slice Qa qn qc]
        have hnear := sk_near (P8.out.below b9) (Q8.out.below b9) w8.heap.size K9.lt (K9.cell 0) (K9.cell 1)
        have B9 := B8.out.trans (b9.mono B8.out.size)
        have X9 := Lib.hid (X8.out.below b9)
        have Y9 := Lib.hid (Y8.out.below b9)
        have P9 := Lib.hid (P8.out.below b9)
        have Q9 := Lib.hid (Q8.out.below b9)
        refine hnear.mono ?_
        rintro e w10 ⟨⟨g, c', rfl, hg⟩, hb⟩
        have B10 := Lib.hid (B9.trans (hb.mono B9.size))
        have X10 := Lib.hid (X9.out.below hb)
        have Y10 := Lib.hid (Y9.out.below hb)
        have P10 := Lib.hid (P9.out.below hb)
        have Q10 := Lib.hid (Q9.out.below hb)
        have hgl : g < w10.heap.size := block_lt_of_cell (a := ⟨g, 0, none⟩) hg
        have HG := Lib.hid hg
        clear hnear b9 K9 B9 X9 Y9 P9 Q9 B8 X8 Y8 P8 Q8 hb hg
        go_wp2_with fail
        have ha1 := sk_apart X10.out Y10.out
        rw [HD1.out] at ha1
        refine ha1.mono ?_
        rintro e w11 ⟨rfl, hb⟩
        have B11 := Lib.hid (B10.out.trans (hb.mono B10.out.size))
        have P11 := Lib.hid (P10.out.below hb)
        have Q11 := Lib.hid (Q10.out.below hb)
        have G11 := Lib.hid ((hb.cell (p := ⟨g, 0, none⟩) hgl).trans HG.out)
        have hgl2 := Nat.lt_of_lt_of_le hgl hb.size
        clear ha1 hb hgl HG B10 X10 Y10 P10 Q10
        go_wp2_with fail
        have ha2 := sk_apart P11.out Q11.out
        rw [HD2.out] at ha2
        refine ha2.mono ?_
        rintro e w12 ⟨rfl, hb⟩
        have B12 := Lib.hid (B11.out.trans (hb.mono B11.out.size))
        have P12 := Lib.hid (P11.out.below hb)
        have Q12 := Lib.hid (Q11.out.below hb)
        have G12 := Lib.hid ((hb.cell (p := ⟨g, 0, none⟩) hgl2).trans G11.out)
        have hgl3 := Nat.lt_of_lt_of_le hgl2 hb.size
        clear ha2 hb hgl2 G11 B11 P11 Q11
        go_wp2_with fail
        have ha3 := sk_apart P12.out Q12.out
        rw [HD2.out] at ha3
        refine ha3.mono ?_
        rintro e w13 ⟨rfl, hb⟩
        have B13 := Lib.hid (B12.out.trans (hb.mono B12.out.size))
        have g13 := (hb.cell (p := ⟨g, 0, none⟩) hgl3).trans G12.out
        clear ha3 hb hgl3 G12 B12 P12 Q12
        go_wp2_with fail
        go_ret
        exact ⟨rfl, B13.out⟩)
theorem topSketched_any {w : World} {A B : Option Addr} {n c m d : Nat} {a b : List Int} (ha : Rd w w.heap.size A n (a.map (.int .i32))) (hb : Rd w w.heap.size B m (b.map (.int .i32))) (hra : ∀ z ∈ a, -2147483648 ≤ z ∧ z ≤ 2147483647) (hrb : ∀ z ∈ b, -2147483648 ≤ z ∧ z ≤ 2147483647) (seed N M : Int) :
    Calls Try.prog 3 #[.slice A n c, .slice B m d, .int .u64 seed, .int .i64 N, .int .i64 M] w fun e w' => e = .returned (.bool true) ∧ Below w.heap.size w w' := by
  have hig : ∀ (l : List Int), (∀ z ∈ l, -2147483648 ≤ z ∧ z ≤ 2147483647) → ∀ k, -2147483648 ≤ ig l k ∧ ig l k ≤ 2147483647 := fun l h k => by
    rcases Nat.lt_or_ge k l.length with q | q
    · exact h _ (by rw [ig, List.getD_eq_getElem?_getD, List.getElem?_eq_getElem q]; simp)
    · rw [ig_out q]; omega
  cases t1 : decide ((n : Int) > 50) with
  | true =>
    clear hig ha hb hra hrb
    go_enter Try.func3, Try.ntmps3
    go_wp2_with fail
    refine (begins22_any w).mono ?_
    rintro e w1 ⟨rfl, hb⟩
    go_wp2_with fail
    go_ret
    exact ⟨rfl, hb⟩
  | false =>
    cases t2 : decide ((m : Int) > 50) with
    | true =>
      clear hig ha hb hra hrb
      go_enter Try.func3, Try.ntmps3
      go_wp2_with fail
      refine (begins22_any w).mono ?_
      rintro e w1 ⟨rfl, hb⟩
      go_wp2_with fail
      go_ret
      exact ⟨rfl, hb⟩
    | false =>
      cases t3 : decide (N < 0) with
      | true =>
        clear hig ha hb hra hrb
        go_enter Try.func3, Try.ntmps3
        go_wp2_with fail
        refine (begins22_any w).mono ?_
        rintro e w1 ⟨rfl, hb⟩
        go_wp2_with fail
        go_ret
        exact ⟨rfl, hb⟩
      | false =>
        cases t4 : decide (N > 200) with
        | true =>
          clear hig ha hb hra hrb
          go_enter Try.func3, Try.ntmps3
          go_wp2_with fail
          refine (begins22_any w).mono ?_
          rintro e w1 ⟨rfl, hb⟩
          go_wp2_with fail
          go_ret
          exact ⟨rfl, hb⟩
        | false =>
          cases t5 : decide (M < N) with
          | true =>
            clear hig ha hb hra hrb
            go_enter Try.func3, Try.ntmps3
            go_wp2_with fail
            refine (begins22_any w).mono ?_
            rintro e w1 ⟨rfl, hb⟩
            go_wp2_with fail
            go_ret
            exact ⟨rfl, hb⟩
          | false =>
            cases t6 : decide (M > 200) with
            | true =>
              clear hig ha hb hra hrb
              go_enter Try.func3, Try.ntmps3
              go_wp2_with fail
              refine (begins22_any w).mono ?_
              rintro e w1 ⟨rfl, hb⟩
              go_wp2_with fail
              go_ret
              exact ⟨rfl, hb⟩
            | false =>
              have h1 := of_decide_eq_false t1
              have h2 := of_decide_eq_false t2
              have h3 := of_decide_eq_false t3
              have h4 := of_decide_eq_false t4
              have h5 := of_decide_eq_false t5
              have h6 := of_decide_eq_false t6
              obtain ⟨N', rfl⟩ := Int.eq_ofNat_of_zero_le (show 0 ≤ N by omega)
              obtain ⟨M', rfl⟩ := Int.eq_ofNat_of_zero_le (show 0 ≤ M by omega)
              exact topSketched_walk ⟨ha, hig a hra, by omega⟩ ⟨hb, hig b hrb, by omega⟩ (by omega) (by omega) seed N' M' (by omega) (by omega)
end Go.Proofs.Ytlmgfbhgamchgaa
