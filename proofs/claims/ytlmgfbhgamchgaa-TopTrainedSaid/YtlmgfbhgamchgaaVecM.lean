/- Walk of vec.Mean; slices of slices that read as lists of lists. -/
import Derived.Test.YtlmgfbhgamchgaaVecW
namespace Go.Proofs.Ytlmgfbhgamchgaa
open Go.RowKit
theorem info_int64 : (Try.prog.info? 2).map (fun i => (i.zero, i.size, i.bytes)) = some (some (.int .i64 0), 1, 8) := by kernel_rfl
theorem info_int32 : (Try.prog.info? 21).map (fun i => (i.zero, i.size, i.bytes)) = some (some (.int .i32 0), 1, 4) := by kernel_rfl
/-- An element of a list of lists: under a name. -/
def lg (zss : List (List Int)) (k : Nat) : List Int := zss.getD k []
/-- A slice of slices of numbers, that reads as a list of lists. -/
def RdM (kd : IntKind) (w : World) (B : Nat) (A : Option Addr) (m : Nat) (zss : List (List Int)) : Prop :=
  zss.length = m ∧ ∃ vs : List Value, Rd w B A m vs ∧ ∀ i, i < m → ∃ Ai ci, vs[i]? = some (.slice Ai (lg zss i).length ci) ∧ (lg zss i).length ≤ ci ∧ Rd w B Ai (lg zss i).length ((lg zss i).map (.int kd))
section
variable {kd : IntKind} {w w' : World} {B B' m : Nat} {A : Option Addr} {zss : List (List Int)}
theorem RdM.below (h : RdM kd w B A m zss) (hb : Below B w w') : RdM kd w' B A m zss := by
  obtain ⟨h1, vs, h2, h3⟩ := h
  exact ⟨h1, vs, h2.below hb, fun i hi => let ⟨Ai, ci, e, hc, hr⟩ := h3 i hi; ⟨Ai, ci, e, hc, hr.below hb⟩⟩
theorem RdM.more (h : RdM kd w B A m zss) (hB : B ≤ B') : RdM kd w B' A m zss := by
  obtain ⟨h1, vs, h2, h3⟩ := h
  exact ⟨h1, vs, h2.more hB, fun i hi => let ⟨Ai, ci, e, hc, hr⟩ := h3 i hi; ⟨Ai, ci, e, hc, hr.more hB⟩⟩
theorem RdM.at_ (h : RdM kd w B A m zss) {k : Nat} (hk : k < m) : ∃ b o Ak ck, A = some ⟨b, o, none⟩ ∧ b < B ∧ w.cell? ⟨b, o + k, none⟩ = some (.slice Ak (lg zss k).length ck) ∧ (lg zss k).length ≤ ck ∧ Rd w B Ak (lg zss k).length ((lg zss k).map (.int kd)) := by
  obtain ⟨h1, vs, h2, h3⟩ := h
  obtain ⟨Ak, ck, e, hc, hr⟩ := h3 k hk
  obtain ⟨b, o, hA, hb, hcell⟩ := h2.2 (by omega)
  exact ⟨b, o, Ak, ck, hA, hb, hcell k _ e, hc, hr⟩
end
/-- The sum of place i of the first k lists. -/
def colS (zss : List (List Int)) (i : Nat) : Nat → Int
  | 0 => 0
  | k + 1 => colS zss i k + ig (lg zss k) i
/-- The middle of some vectors: rounded down. -/
def meanL (zss : List (List Int)) (n : Nat) : List Int := (List.range n).map fun i => colS zss i zss.length / (zss.length : Int)
theorem mean_len (zss : List (List Int)) (n : Nat) : (meanL zss n).length = n := by simp [meanL]
theorem mean_ig {zss : List (List Int)} {n i : Nat} (h : i < n) : ig (meanL zss n) i = colS zss i zss.length / (zss.length : Int) := by
  rw [meanL, ig, List.getD_eq_getElem?_getD, List.getElem?_map, List.getElem?_range h]; rfl
theorem col_bd {zss : List (List Int)} {i : Nat} (h : ∀ k, -2147483648 ≤ ig (lg zss k) i ∧ ig (lg zss k) i ≤ 2147483647) : ∀ k : Nat, -((k : Int) * 2147483648) ≤ colS zss i k ∧ colS zss i k ≤ (k : Int) * 2147483647 := by
  intro k
  induction k with
  | zero => simp [colS]
  | succ k ih => have := h k; rw [colS]; omega
/-- The sums of the first k lists, and of one more, as far as i. -/
def SumInv (zss : List (List Int)) (n k i : Nat) (cs : List Int) : Prop := cs.length = n ∧ (∀ j, j < i → ig cs j = colS zss j (k + 1)) ∧ ∀ j, i ≤ j → j < n → ig cs j = colS zss j k
theorem SumInv.step {zss : List (List Int)} {n k i : Nat} {cs : List Int} (h : SumInv zss n k i cs) (hi : i < n) : SumInv zss n k (i + 1) (cs.set i (colS zss i (k + 1))) := by
  obtain ⟨h1, h2, h3⟩ := h
  refine ⟨by rw [List.length_set]; exact h1, fun j hj => ?_, fun j h4 h5 => ?_⟩
  · rw [ig_set (by omega)]
    split
    · rename_i e; subst e; rfl
    · exact h2 j (by omega)
  · rw [ig_set (by omega), if_neg (by omega)]; exact h3 j (by omega) h5
/-- Rounding down, as the text has it. -/
theorem floor_law (s n : Int) (hn : 0 < n) : (if s < s.tdiv n * n then s.tdiv n - 1 else s.tdiv n) = s / n := by
  have h2 := Int.mul_ediv_add_emod s n
  have h3 := Int.emod_nonneg s (show n ≠ 0 by omega)
  have h4 := Int.emod_lt_of_pos s hn
  obtain ⟨q, hq⟩ : ∃ q, s / n = q := ⟨_, rfl⟩
  rw [hq] at h2 ⊢
  by_cases h : 0 ≤ s ∨ n ∣ s
  · have e : s.tdiv n = q := by rw [Int.tdiv_eq_ediv, if_pos h, hq]; omega
    rw [e, if_neg (by rw [Int.mul_comm]; omega)]
  · have e : s.tdiv n = q + 1 := by rw [Int.tdiv_eq_ediv, if_neg h, hq, Int.sign_eq_one_of_pos hn]
    rw [e, if_pos (by rw [Int.add_mul, Int.one_mul, Int.mul_comm]; omega)]
    omega
/-- What Mean tells. -/
def RetMean (zss : List (List Int)) (n : Nat) (w : World) (e : Ending) (w' : World) : Prop :=
  ∃ A c, e = .returned (.tuple #[.slice A n c, .int .i64 0]) ∧ n ≤ c ∧ Rd w' w'.heap.size A n ((meanL zss n).map (.int .i32)) ∧ Below w.heap.size w w'
/-- .. and that it is made anew. -/
def RetMeanF (zss : List (List Int)) (n : Nat) (w : World) (e : Ending) (w' : World) : Prop :=
  ∃ A c, e = .returned (.tuple #[.slice A n c, .int .i64 0]) ∧ n ≤ c ∧ Rd w' w'.heap.size A n ((meanL zss n).map (.int .i32)) ∧ Below w.heap.size w w' ∧ ∀ b o, A = some ⟨b, o, none⟩ → w.heap.size ≤ b
set_option maxRecDepth 100000 in
set_option maxHeartbeats 4000000 in
theorem vec_meanF (A : Option Addr) (m c n : Nat) (zss : List (List Int)) (w : World) (hr : RdM .i32 w w.heap.size A m zss) (hm : m ≤ 1073741824) (hm0 : 0 < m) (hn : n ≤ 35184372088832)
    (hl : ∀ k, k < m → (lg zss k).length = n) (hb : ∀ k i, -2147483648 ≤ ig (lg zss k) i ∧ ig (lg zss k) i ≤ 2147483647) :
    Calls Try.prog 36 #[.slice A m c] w (RetMeanF zss n w) := by
  have HR := Lib.hid hr
  have HL := Lib.hid hl
  have HM : Hid (zss.length = m) := hr.1
  have HB := Lib.hid hb
  have HCB : Hid (∀ i k, k ≤ m → -2305843009213693952 ≤ colS zss i k ∧ colS zss i k ≤ 2305843009213693952) := fun i k hk => by
    have := col_bd (zss := zss) (i := i) (fun k => hb k i) k
    omega
  have hm1 : (1 : Int) ≤ (m : Int) := by omega
  have t0 : ((m : Int) == 0) = false := by simp; omega
  have hmk1 := fun (kl kc : IntKind) => run_make_row' (P := Try.prog) 94 2 (.int .i64 0) 8 Try.underlying94 info_int64 rfl kl kc n (by omega) (by omega)
  have hmk2 := fun (kl kc : IntKind) => run_make_row' (P := Try.prog) 22 21 (.int .i32 0) 4 Try.underlying22 info_int32 rfl kl kc n (by omega) (by omega)
  obtain ⟨b0, o0, A0, c0, rfl, hb0, hcell0, _, _⟩ := hr.at_ (k := 0) hm0
  rw [hl 0 hm0] at hcell0
  rw [Nat.add_zero] at hcell0
  clear hr hl hb
  go_enter Try.func36, Try.ntmps36
  go_wp2_with fail
  have I0 := Lib.hid (IB.made w 2 n .i64)
  have B0 : Below w.heap.size w (w.alloc (.cells (madeCells #[.int .i64 0] n) 2)) := (Below.refl _ _).alloc (Nat.le_refl _) _
  have U0 : Hid (SumInv zss n 0 0 (List.replicate n 0)) := by
    refine ⟨by simp, fun j hj => by omega, fun j _ hj => ?_⟩
    rw [ig, List.getD_eq_getElem?_getD, List.getElem?_replicate, if_pos hj]; rfl
  have HMK2 := Lib.hid hmk2
  obtain ⟨W, hW⟩ : ∃ W, w.alloc (.cells (madeCells #[.int .i64 0] n) 2) = W := ⟨_, rfl⟩
  rw [hW] at I0 B0 ⊢
  clear hmk1 hmk2 hW hcell0
  go_loopw [24] (fun i wr => ∃ (k : Nat) (cs : List Int), k ≤ m ∧ i = .int .i64 k ∧ Hid (IB wr w.heap.size 2 .i64 cs) ∧ Hid (SumInv zss n k 0 cs) ∧ Hid (Below w.heap.size w wr)) (fun i _ => m - (intOf i).toNat)
  case atStart => exact ⟨0, _, Nat.zero_le _, rfl, I0, U0, B0⟩
  case round =>
    clear I0 U0 B0
    obtain ⟨k, cs, hk, rfl, I, U, hB⟩ := hrel
    by_cases hlt : k < m
    · obtain ⟨b1, o1, A1, c1, hA, hb1, hcell1, hc1, hrd1⟩ := HR.out.at_ hlt
      injection hA with hA; injection hA with ea eb; subst ea; subst eb
      rw [HL.out k hlt] at hcell1 hrd1
      have hcell := (hB.out.cell (p := ⟨b0, o0 + k, none⟩) hb1).trans hcell1
      have R1 := Lib.hid hrd1
      obtain ⟨wo, rfl⟩ : ∃ wo : World, wo = wr := ⟨_, rfl⟩
      clear hcell1 hrd1 hc1
      go_wp2_with fail
      go_loopw [35] (fun i wr => ∃ (j : Nat) (cs : List Int), j ≤ n ∧ i = .int .i64 j ∧ Hid (IB wr w.heap.size 2 .i64 cs) ∧ Hid (SumInv zss n k j cs) ∧ Hid (Below w.heap.size w wr)) (fun i _ => n - (intOf i).toNat)
      case atStart => exact ⟨0, cs, Nat.zero_le _, rfl, I, U, hB⟩
      case round =>
        clear I U hB hcell
        obtain ⟨j, cs, hj, rfl, I, U, hB⟩ := hrel
        by_cases hlt2 : j < n
        · obtain ⟨b2, o2, rfl, hb2, hc0⟩ := R1.out.atI hlt2
          have hc := (hB.out.cell (p := ⟨b2, o2 + j, none⟩) hb2).trans hc0
          have u1 := U.out.1
          have hcl := I.out.cell (k := j) (by omega)
          rw [U.out.2.2 j (Nat.le_refl _) hlt2] at hcl
          have hfz := I.out.frozen j
          have hsum : colS zss j (k + 1) = colS zss j k + ig (lg zss k) j := rfl
          have U2 := Lib.hid (U.out.step hlt2)
          have I2 := Lib.hid (I.out.set_ (k := j) (by omega) (colS zss j (k + 1)))
          have B2 := Lib.hid (hB.out.setCell (p := ⟨w.heap.size, j, none⟩) (Nat.le_refl _) (.int .i64 (colS zss j (k + 1))))
          obtain ⟨g1, g2⟩ := HB.out k j
          obtain ⟨g3, g4⟩ := HCB.out j k (by omega)
          obtain ⟨x, hx⟩ : ∃ x, ig (lg zss k) j = x := ⟨_, rfl⟩
          obtain ⟨y, hy⟩ : ∃ y, colS zss j k = y := ⟨_, rfl⟩
          rw [hx] at hc hsum g1 g2
          rw [hy] at hcl hsum g3 g4
          have HSM := Lib.hid hsum
          clear u1 hc0 hx hy hsum
          go_wp2
          rw [← HSM.out]
          go_roundw
          case rel => exact ⟨j + 1, _, by omega, by go_num, I2, U2, B2⟩
          case measure => simp [intOf]; omega
        · obtain rfl : j = n := by omega
          have U2 : Hid (SumInv zss j (k + 1) 0 cs) := ⟨U.out.1, fun i hi => by omega, fun i _ hi => U.out.2.1 i hi⟩
          go_wp2_with fail
          go_roundw
          case rel => exact ⟨k + 1, cs, by omega, by go_num, I, U2, hB⟩
          case measure => simp [intOf]; omega
    · obtain rfl : k = m := by omega
      have hmk2 := HMK2.out
      have hszb := hB.out.size
      have hIl := I.out.lt
      go_wp2_with fail
      have J0 := Lib.hid (IB.made wr 21 n .i32)
      have I1 : IB (wr.alloc (.cells (madeCells #[.int .i32 0] n) 21)) w.heap.size 2 .i64 cs := by
        obtain ⟨rest, hI⟩ := I.out
        exact ⟨rest, (Below.heap_alloc wr _ _ hIl).trans hI⟩
      have B1 := hB.out.alloc hszb (.cells (madeCells #[.int .i32 0] n) 21)
      obtain ⟨W, hW⟩ : ∃ W, wr.alloc (.cells (madeCells #[.int .i32 0] n) 21) = W := ⟨_, rfl⟩
      rw [hW] at I1 J0 B1 ⊢
      have HI1 := Lib.hid I1
      have HB1 := Lib.hid B1
      have HU := U
      clear hmk2 hW I hB I1 B1 U
      obtain ⟨g, hg⟩ : ∃ g, wr.heap.size = g := ⟨_, rfl⟩
      rw [hg] at J0 hIl hszb ⊢
      clear hg
      go_loopw [57] (fun i wx => ∃ (j : Nat) (ds : List Int), j ≤ n ∧ i = .int .i64 j ∧ Hid (IB wx w.heap.size 2 .i64 cs) ∧ Hid (IB wx g 21 .i32 ds) ∧ Hid (ds.length = n ∧ ∀ i, i < j → ig ds i = ig (meanL zss n) i) ∧ Hid (Below w.heap.size w wx)) (fun i _ => n - (intOf i).toNat)
      case atStart => exact ⟨0, _, Nat.zero_le _, rfl, HI1, J0, ⟨List.length_replicate, fun i hi => by omega⟩, HB1⟩
      case round =>
        clear HI1 J0 HB1
        obtain ⟨j, ds, hj, rfl, I, J, V, hB⟩ := hrel
        by_cases hlt2 : j < n
        · have u1 := HU.out.1
          have v1 := V.out.1
          have hcl := I.out.cell (k := j) (by omega)
          rw [HU.out.2.2 j (Nat.zero_le _) hlt2] at hcl
          have hfz := J.out.frozen j
          have hdl := J.out.cell (k := j) (by omega)
          have hfl := floor_law (colS zss j k) (k : Int) (by omega)
          have hmi := mean_ig (zss := zss) hlt2
          rw [HM.out] at hmi
          obtain ⟨g3, g4⟩ := HCB.out j k (Nat.le_refl _)
          have hq : -2147483648 ≤ colS zss j k / (k : Int) ∧ colS zss j k / (k : Int) ≤ 2147483647 := by
            have hcb := col_bd (zss := zss) (i := j) (fun k => HB.out k j) k
            constructor
            · exact Int.le_ediv_of_mul_le (by omega) (by omega)
            · have := Int.ediv_le_of_le_mul (show (0 : Int) < k by omega) (show colS zss j k ≤ 2147483647 * (k : Int) by omega)
              exact this
          have V2 : Hid ((ds.set j (ig (meanL zss n) j)).length = n ∧ ∀ i, i < j + 1 → ig (ds.set j (ig (meanL zss n) j)) i = ig (meanL zss n) i) := ⟨by rw [List.length_set]; exact v1, fun i hi => by
            rw [ig_set (by omega)]
            split
            · rename_i e; subst e; rfl
            · exact V.out.2 i (by omega)⟩
          have J2 := Lib.hid (J.out.set_ (k := j) (by omega) (ig (meanL zss n) j))
          have B2 := Lib.hid (hB.out.setCell (p := ⟨g, j, none⟩) (by show _ ≤ g; omega) (.int .i32 (ig (meanL zss n) j)))
          have I2 : Hid (IB (wr.setCell ⟨g, j, none⟩ (.int .i32 (ig (meanL zss n) j))) w.heap.size 2 .i64 cs) := by
            obtain ⟨rest, hI⟩ := I.out
            exact ⟨rest, (Below.heap_setCell wr ⟨g, j, none⟩ _ _ (by show w.heap.size ≠ g; omega)).trans hI⟩
          rw [hmi] at V2 J2 B2 I2
          rw [← hfl] at V2 J2 B2 I2 hq
          obtain ⟨x, hx⟩ : ∃ x, colS zss j k = x := ⟨_, rfl⟩
          rw [hx] at hcl V2 J2 B2 I2 hq g3 g4
          have hmul : (x.tdiv (k : Int) * (k : Int)).natAbs ≤ x.natAbs := by
            have h1 := Int.natAbs_tdiv x k
            rw [Int.natAbs_mul, h1]
            simp only [Int.natAbs_natCast]
            exact Nat.div_mul_le_self _ _
          have hdv : (x.tdiv (k : Int)).natAbs ≤ x.natAbs := by
            have h1 := Int.natAbs_tdiv x k
            rw [h1]; exact Nat.div_le_self _ _
          obtain ⟨y, hy⟩ : ∃ y, x.tdiv (k : Int) = y := ⟨_, rfl⟩
          rw [hy] at hmul hdv V2 J2 B2 I2 hq
          obtain ⟨p, hp⟩ : ∃ p, y * (k : Int) = p := ⟨_, rfl⟩
          rw [hp] at hmul V2 J2 B2 I2 hq
          have q1 : -2305843009213693952 ≤ p ∧ p ≤ 2305843009213693952 := by omega
          have q2 : -2305843009213693952 ≤ y ∧ y ≤ 2305843009213693952 := by omega
          obtain ⟨q3, q4⟩ := q1
          obtain ⟨q5, q6⟩ := q2
          clear u1 v1 hfl hmi hx hmul hdv
          by_cases h : x < p
          · rw [if_pos h] at V2 J2 B2 I2 hq
            obtain ⟨q7, q8⟩ := hq
            have t1 : decide (x < p) = true := by simp; omega
            clear h
            go_wp2
            clear hy hp
            go_roundw
            case rel => exact ⟨j + 1, _, by omega, by go_num, I2, J2, V2, B2⟩
            case measure => simp [intOf]; omega
          · rw [if_neg h] at V2 J2 B2 I2 hq
            obtain ⟨q7, q8⟩ := hq
            have t1 : decide (x < p) = false := by simp; omega
            clear h
            go_wp2
            clear hy hp
            go_roundw
            case rel => exact ⟨j + 1, _, by omega, by go_num, I2, J2, V2, B2⟩
            case measure => simp [intOf]; omega
        · obtain rfl : j = n := by omega
          have he : ds = meanL zss j := ext_getD (by rw [V.out.1, mean_len]) fun i hi => V.out.2 i (by rw [V.out.1] at hi; exact hi)
          have hrd := J.out.rd
          rw [V.out.1, he] at hrd
          have hB2 := hB.out
          clear he
          go_wp2_with fail
          refine bodyPost_ret (v := .tuple #[.slice (some ⟨g, 0, none⟩) j j, .int .i64 0]) (by simp [results, Try.results36, go_sem]) rfl ?_
          exact ⟨some ⟨g, 0, none⟩, j, rfl, Nat.le_refl _, hrd, hB2, fun b o e => by injection e with e; injection e with e1; subst e1; exact hszb⟩
theorem vec_mean (A : Option Addr) (m c n : Nat) (zss : List (List Int)) (w : World) (hr : RdM .i32 w w.heap.size A m zss) (hm : m ≤ 1073741824) (hm0 : 0 < m) (hn : n ≤ 35184372088832)
    (hl : ∀ k, k < m → (lg zss k).length = n) (hb : ∀ k i, -2147483648 ≤ ig (lg zss k) i ∧ ig (lg zss k) i ≤ 2147483647) :
    Calls Try.prog 36 #[.slice A m c] w (RetMean zss n w) :=
  (vec_meanF A m c n zss w hr hm hm0 hn hl hb).mono fun _ _ ⟨A', c', h1, h2, h3, h4, _⟩ => ⟨A', c', h1, h2, h3, h4⟩
end Go.Proofs.Ytlmgfbhgamchgaa
