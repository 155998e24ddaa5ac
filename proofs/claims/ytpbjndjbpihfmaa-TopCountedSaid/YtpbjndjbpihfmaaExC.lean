/- How many hits are ahead of one tell its place: TopCounted. Printed by genExC.py. -/
import Derived.Test.YtpbjndjbpihfmaaBg7
namespace Go.Proofs.Ytpbjndjbpihfmaa
open Go.RowKit
/-- What is of the first ones only. -/
theorem countP_prefix {α : Type} {P : α → Bool} : ∀ {l : List α}, (∀ (i j : Nat) (a b : α), i < j → l[i]? = some a → l[j]? = some b → P b = true → P a = true) → ∀ (i : Nat) (a : α), l[i]? = some a → (P a = true ↔ i < l.countP P)
  | [], _, i, a, hi => by simp at hi
  | c :: r, h, i, a, hi => by
    have ih := countP_prefix (l := r) (fun i j a b hij h1 h2 => h (i + 1) (j + 1) a b (by omega) h1 h2)
    rw [List.countP_cons]
    cases hc : P c
    · have hall : ∀ a ∈ r, ¬ P a = true := fun a ha hp => by
        obtain ⟨j, hj⟩ := List.mem_iff_getElem?.1 ha
        have := h 0 (j + 1) c a (by omega) rfl hj hp
        rw [hc] at this
        cases this
      have h0 : r.countP P = 0 := List.countP_eq_zero.2 hall
      rw [h0]
      simp only [Bool.false_eq_true, if_false, Nat.add_zero, Nat.not_lt_zero, iff_false]
      rcases i with _ | i
      · injection hi with hi; subst hi; simp [hc]
      · exact hall a (List.mem_of_getElem? (l := r) hi)
    · rcases i with _ | i
      · injection hi with hi; subst hi; simp [hc]
      · rw [ih i a hi]
        simp
theorem sortSp_pair (l : List Sp) : (sortSp l).Pairwise fun a b => ahB b a = false := by
  have := List.pairwise_mergeSort (le := fun x y => !ahB y x) (fun a b c h1 h2 => by
    simp only [Bool.not_eq_true'] at *
    rw [ahB_false] at *
    omega) (fun a b => by
    cases h : ahB b a
    · rfl
    · have h2 : ahB a b = false := by rw [ahB_false]; rw [ahB_iff] at h; omega
      rw [h2]; rfl) l
  exact this.imp (fun h => by simpa using h)
theorem sortSp_at {l : List Sp} {i j : Nat} {a b : Sp} (hij : i ≤ j) (hi : (sortSp l)[i]? = some a) (hj : (sortSp l)[j]? = some b) : ahB b a = false := by
  rcases Nat.eq_or_lt_of_le hij with rfl | hlt
  · rw [hi] at hj
    injection hj with hj
    subst hj
    rw [ahB_false]; omega
  · have hp := List.pairwise_iff_getElem.1 (sortSp_pair l)
    obtain ⟨h1, rfl⟩ := List.getElem?_eq_some_iff.1 hi
    obtain ⟨h2, rfl⟩ := List.getElem?_eq_some_iff.1 hj
    exact hp i j h1 h2 hlt
theorem sortSp_mem {l : List Sp} {x : Sp} : x ∈ sortSp l ↔ x ∈ l := (List.mergeSort_perm l _).mem_iff
theorem ordI_neg {a b : Sp} : ordI a b < 0 ↔ a.d < b.d ∨ (a.d = b.d ∧ a.id < b.id) := by
  unfold ordI
  have h1 := cmpI_neg (x := a.d) (y := b.d)
  have h2 := cmpI_neg (x := a.id) (y := b.id)
  have z1 := cmpI_zero (x := a.d) (y := b.d)
  split <;> omega
theorem hitL_s {q : IS} {mask : Int} {its : List ItX} {x : Sp} (h : x ∈ sortSp (hitL q mask its)) : x.s = 0 := by
  rw [sortSp_mem] at h
  unfold hitL at h
  obtain ⟨d, _, rfl⟩ := List.mem_map.1 h
  rfl
/-- What the place tells. -/
theorem place_law {q : IS} {mask : Int} {its : List ItX} {L : List Sp} (hL : sortSp (hitL q mask its) = L) {k : Nat} {x : Sp} (hx : L[k]? = some x) :
    L.countP (aheadH x) ≤ k ∧ (∀ i y, L.countP (aheadH x) ≤ i → i ≤ k → L[i]? = some y → y = x) ∧ (∀ i y, i < L.countP (aheadH x) → L[i]? = some y → decide (ordI y x < 0) = true) ∧ (∀ K, K ≤ L.length → (∀ y, L[K]? = some y → x.d < y.d) → k < K) := by
  subst hL
  have hpre := countP_prefix (P := aheadH x) (l := sortSp (hitL q mask its)) (fun i j a b hij hi hj hb => by
    unfold aheadH at *
    rw [decide_eq_true_iff, ordI_neg] at *
    have h1 := sortSp_at (Nat.le_of_lt hij) hi hj
    rw [ahB_false] at h1
    have e1 := hitL_s (List.mem_of_getElem? hi)
    have e2 := hitL_s (List.mem_of_getElem? hj)
    omega)
  refine ⟨?_, fun i y h1 h2 hy => ?_, fun i y h1 hy => ?_, fun K hK h1 => ?_⟩
  · have := hpre k x hx
    have h2 : aheadH x x = false := by unfold aheadH; rw [decide_eq_false_iff_not, ordI_neg]; omega
    rw [h2] at this
    simp only [Bool.false_eq_true, false_iff] at this
    omega
  · have h3 := hpre i y hy
    have h4 : ¬ aheadH x y = true := fun h => by have := h3.1 h; omega
    unfold aheadH at h4
    rw [decide_eq_true_iff, ordI_neg] at h4
    have h5 := sortSp_at h2 hy hx
    rw [ahB_false] at h5
    have e1 := hitL_s (List.mem_of_getElem? hy)
    have e2 := hitL_s (List.mem_of_getElem? hx)
    obtain ⟨d, id, s⟩ := y
    obtain ⟨d', id', s'⟩ := x
    simp only at h4 h5 e1 e2
    have a1 : d = d' := by omega
    have a2 : id = id' := by omega
    rw [a1, a2, e1, e2]
  · exact (hpre i y hy).2 h1
  · refine Nat.lt_of_not_le fun hc => ?_
    have hkl : k < (sortSp (hitL q mask its)).length := (List.getElem?_eq_some_iff.1 hx).1
    have hKl : K < (sortSp (hitL q mask its)).length := by omega
    have h2 := h1 _ (List.getElem?_eq_getElem hKl)
    have h3 := sortSp_at hc (List.getElem?_eq_getElem hKl) hx
    rw [ahB_false] at h3
    omega
set_option maxRecDepth 100000 in
theorem run_lhH (g m c l h : Nat) (h1 : l ≤ h) (h2 : h ≤ c) (h3 : l < c) (w : World) : (Instr.slice 26 (.slice (some ⟨g, 0, none⟩) m c) (some (.int .i64 l)) (some (.int .i64 h)) none).run Try.prog w = .ok (.slice (some ⟨g, l * 2, none⟩) (h - l) (c - l)) w := by
  have he : Try.prog.underlying 26 = some (.slice (Try.prog.elem 26)) := by unfold Program.elem; rw [Try.underlying26]
  rw [run_slice_lh w 26 (some ⟨g, 0, none⟩) m c he .i64 .i64 l h (by omega) (by omega) (by omega), sizeHit]
  simp only [Result.andThen, sliced, Int.toNat_natCast]
  rw [if_neg (by omega)]
  simp [Addr.add]
  omega
theorem HtAt.cut {w : World} {B : Nat} {g n l h : Nat} {L : List Sp} (H : HtAt w B (some ⟨g, 0, none⟩) n L) (hh : h ≤ n) (hl : l < h) : HtAt w B (some ⟨g, l * 2, none⟩) (h - l) ((L.take h).drop l) := by
  refine ⟨by have := H.len; simp; omega, fun c hc => by obtain ⟨x, _, rfl⟩ := List.mem_map.1 hc; rfl, fun _ => ?_⟩
  obtain ⟨b, o, e, hb, hc⟩ := H.2.2 (by omega)
  injection e with e; injection e with e1 e2 _
  subst e1 e2
  refine ⟨g, l * 2, rfl, hb, fun i c hi => ?_⟩
  have := hc (l + i) c (by
    rw [List.getElem?_map, List.getElem?_drop, List.getElem?_take] at hi
    rw [List.getElem?_map]
    split at hi
    · exact hi
    · cases hi)
  rw [Nat.zero_add, Nat.add_mul] at this
  exact this
section
variable {P : Program} {ops : Array Oper} {S : World → Prop} {o : Oper} {a : Act} {t t' : TypeId} {k : IntKind} {m n : Int} {r : Bool}
theorem yieldsIf_eqlK (hr : (m == n) = r) (hw : Region.wanted o (yielded ops a.tmps) = true) (x y : Operand) (ho : o.op = .binOp .eql t x y t') (hx : a.eval x = .int k m) (hy : a.eval y = .int k n) : YieldsIf P ops S o (.bool r) a := by
  refine .inl ⟨hw, fun w _ => ?_⟩
  unfold execOp
  simp only [ho, hx, hy]
  simp [go_sem, ← hr]
theorem yieldsIf_subK {z : Int} (hr : IntKind.i64.wrap (m - n) = z) (hw : Region.wanted o (yielded ops a.tmps) = true) (x y : Operand) (ho : o.op = .binOp .sub t x y t') (hx : a.eval x = .int .i64 m) (hy : a.eval y = .int .i64 n) : YieldsIf P ops S o (.int .i64 z) a := by
  refine .inl ⟨hw, fun w _ => ?_⟩
  unfold execOp
  simp only [ho, hx, hy]
  simp [go_sem, ← hr]
end
theorem yieldsIf_indexK {ops : Array Oper} {S : World → Prop} {o : Oper} {a : Act} {T E sz b off n c k : Nat} (hT : Try.prog.underlying T = some (.slice E)) (hz : ∀ w, (sizeOf (Try.prog.elem T)).run Try.prog w = .ok sz w) (hw : Region.wanted o (yielded ops a.tmps) = true) (x y : Operand) (ho : o.op = .indexAddr T x y) (hx : a.eval x = .slice (some ⟨b, off, none⟩) n c) (hy : a.eval y = .int .i64 (k : Nat)) (hk : k < n) :
    YieldsIf Try.prog ops S o (.pointer (some ⟨b, off + k * sz, none⟩)) a := by
  refine .inl ⟨hw, fun w _ => ?_⟩
  have he : Try.prog.elem T = E := by unfold Program.elem; rw [hT]
  rw [he] at hz
  have h0 : ¬ ((k : Int) < 0) := by omega
  unfold execOp
  simp only [ho, hx, hy]
  simp [go_sem, hT, hz, hk]
set_option maxRecDepth 100000 in
set_option maxHeartbeats 8000000 in
theorem counted (A : Option Addr) (n c : Nat) (its : List ItX) (q : IS) (mask k0 : Int) (w : World) (hI : Its w w.heap.size A n its) (hq : q.Vec w w.heap.size) (hk0 : k0 ≤ 9223372036854775807) :
    Calls Try.prog 3 #[.slice A n c, q.v, .int .u64 mask, .int .i64 k0] w (RetB true w) := by
  have HBG := Lib.hid (begins7 w)
  by_cases h40 : 40 < n
  · have t40 : decide ((n : Int) > 40) = true := decide_eq_true (by omega)
    clear hI hq h40
    go_enter Try.func3, Try.ntmps3
    go_wp2_with (go_at_call 5; (with_reducible refine HBG.out.mono ?_); rintro e w1 ⟨rfl, hb⟩; have HB1 := Lib.hid hb; clear hb)
    go_ret
    exact ⟨rfl, HB1.out⟩
  have t40 : decide ((n : Int) > 40) = false := decide_eq_false (by omega)
  have hn : n ≤ 1048576 := by omega
  have HI := Lib.hid hI
  have HQ := Lib.hid hq
  have HN := Lib.hid hn
  obtain ⟨L, hL⟩ : ∃ L, sortSp (hitL q mask its) = L := ⟨_, rfl⟩
  have hll : L.length ≤ n := by
    rw [← hL, sortSp_len, hitL, List.length_map]
    exact Nat.le_trans (List.length_filter_le _ _) (by rw [hI.len]; exact Nat.le_refl _)
  have HLL : Hid (L.length ≤ 40) := by show _ ≤ 40; omega
  have HL := Lib.hid hL
  have HTK : Hid (L.take (min (max (n : Int) 0) (L.length : Int)).toNat = L) := List.take_of_length_le (by omega)
  have HS1 : Hid (∀ w1, Below w.heap.size w w1 → Calls Try.prog 6 #[.slice A n c, q.v, .int .u64 mask, .int .i64 n] w1 (RetH L w1)) := by
    intro w1 hb
    have h := ex_search A n c its q mask n w1 (HI.out.on (Nat.le_refl _) hb) ((HQ.out.below hb).more hb.size) HN.out
    rw [HL.out, HTK.out] at h
    exact h
  clear hI hq h40 hll hn hL
  by_cases hkr : 0 ≤ k0 ∧ k0 < (L.length : Int)
  · obtain ⟨k, rfl⟩ : ∃ k : Nat, k0 = k := ⟨k0.toNat, by omega⟩
    have hkl : k < L.length := by omega
    have hkL := HLL.out
    have tk0 : decide ((k : Int) < 0) = false := decide_eq_false (by omega)
    have tk1 : decide ((k : Int) ≥ (L.length : Int)) = false := decide_eq_false (by omega)
    obtain ⟨x, hx⟩ : ∃ x, L[k]? = some x := ⟨_, List.getElem?_eq_getElem hkl⟩
    obtain ⟨p, hp⟩ : ∃ p, L.countP (aheadH x) = p := ⟨_, rfl⟩
    have hlaw := place_law HL.out hx
    rw [hp] at hlaw
    have HLAW := Lib.hid hlaw
    have hpk := hlaw.1
    have HXX := Lib.hid hx
    have HPP := Lib.hid hp
    have HKL := Lib.hid hkl
    have tp1 : decide (k < p) = false := decide_eq_false (by omega)
    have tp2 : decide (L.length ≤ p) = false := decide_eq_false (by omega)
    have HPL : Hid (p ≤ k ∧ p < L.length ∧ k < 1048576 ∧ L.length ≤ 1048576) := by show _ ∧ _; omega
    clear hlaw hx hp hkr hk0
    go_enter Try.func3, Try.ntmps3
    go_upto_region 8 with (first | (go_at_call 5; (with_reducible refine HBG.out.mono ?_); rintro e w1 ⟨rfl, hb⟩; have HB1 := Lib.hid hb; clear hb) | (go_at_call 6; (with_reducible refine (HS1.out _ HB1.out).mono ?_); rintro e w2 ⟨g, n1, c1, rfl, hs, hc1, hc2, hb⟩; obtain rfl : L.length = n1 := (hs.len); have HS := Lib.hid hs; have HB2 := Lib.hid (HB1.out.trans (hb.mono HB1.out.size)); have HC1 := Lib.hid hc1; clear hs hb hc1 hc2))
    obtain ⟨b, o, x', e, hbl, hx', hr⟩ := HS.out.at_ HKL.out
    obtain rfl : x = x' := by have h1 := HXX.out; rw [hx'] at h1; injection h1 with h1; exact h1.symm
    injection e with e; injection e with e1 e2 _
    subst e1 e2
    rw [Nat.zero_add] at hr
    have LI := load_htB hr
    obtain ⟨W3, hW3⟩ : ∃ W3, (w2.alloc (.cells hc0 29)).setCells w2.heap.size 0 (hitC x).toList = W3 := ⟨_, rfl⟩
    have SI := ht_put w2 x
    rw [hW3] at SI
    have bx : Blk W3 w2.heap.size 29 (hitC x) := by rw [← hW3]; exact ht_blk w2 x
    have b3 : Below w2.heap.size w2 W3 := by rw [← hW3]; exact put_bel _ _ _
    have z0 : W3.cell? ⟨w2.heap.size, 0, none⟩ = some (.int .u64 x.d) := bx.cell 0
    obtain ⟨xb, hxb⟩ : ∃ xb, w2.heap.size = xb := ⟨_, rfl⟩
    have HX3 : Hid (Blk W3 xb 29 (hitC x)) := by rw [← hxb]; exact bx
    have HS3 := Lib.hid (HtAt.on HS.out (Nat.le_refl _) b3)
    have HB3 : Hid (Below w.heap.size w W3) := HB2.out.trans (b3.mono HB2.out.size)
    have HWI := Lib.hid (ex_within A n c its q mask x.d W3 (HI.out.on (Nat.le_refl _) HB3.out) ((HQ.out.below HB3.out).more HB3.out.size) HN.out)
    rw [HL.out] at HWI
    clear bx b3 hx' hr hbl hW3
    unfold hitV at LI SI
    rw [hxb] at SI z0
    go_upto_region 9 with (first | refine wpList_loadE LI _ rfl rfl rfl ?_ | (rw [hxb]; refine wpList_storeE SI _ _ rfl rfl rfl rfl ?_) | refine wpList_storeE SI _ _ rfl rfl rfl rfl ?_)
    clear LI SI
    go_upto_region 10 with (go_at_call 7; (with_reducible refine HWI.out.mono ?_); rintro e W4 ⟨g2, K, c2, rfl, hK1, hK2, hb⟩; have HKK := Lib.hid (HLAW.out.2.2.2 K hK1 hK2); have HKn := Lib.hid hK1; have HB34 := Lib.hid hb; clear hb hK1 hK2)
    clear z0 HWI
    have L4 := hit_load (x := x) (HX3.out.below HB34.out HX3.out.lt)
    have HB4 : Hid (Below w.heap.size w W4) := HB3.out.trans (HB34.out.mono HB3.out.size)
    have HPC := Lib.hid (ex_place A n c its q mask x W4 (HI.out.on (Nat.le_refl _) HB4.out) ((HQ.out.below HB4.out).more HB4.out.size) HN.out)
    rw [HL.out, HPP.out] at HPC
    unfold hitV at HPC L4
    go_upto_region 11 with (first | refine wpList_loadE L4 _ rfl rfl rfl ?_ | (go_at_call 8; (with_reducible refine HPC.out.mono ?_); rintro e W5 ⟨rfl, hb⟩; have HB45 := Lib.hid hb; clear hb))
    clear L4 HPC
    have HB35 : Hid (Below W3.heap.size W3 W5) := HB34.out.trans (HB45.out.mono HB34.out.size)
    have HB5 : Hid (Below w.heap.size w W5) := HB4.out.trans (HB45.out.mono HB4.out.size)
    have tK : decide (K ≤ k) = false := decide_eq_false (by have := HKK.out; omega)
    have RS := run_lhH g L.length c1 p (k + 1) (by omega) (by have := HC1.out; have := HKL.out; omega) (by have := HC1.out; have := HKL.out; omega) W5
    rw [show ((k + 1 : Nat) : Int) = (k : Int) + 1 from rfl] at RS
    have HKL2 := HPL.out.2.2.1
    go_wp2_with fail
    have HX5 : Hid (Blk W5 xb 29 (hitC x)) := HX3.out.below HB35.out HX3.out.lt
    have HS5 := Lib.hid (HtAt.on HS3.out (Nat.le_refl _) HB35.out)
    have hcut := HtAt.cut HS5.out (show k + 1 ≤ L.length from HKL.out) (show p < k + 1 by omega)
    have HCUT := Lib.hid hcut
    clear hcut RS
    go_loopw [70] (fun i wr => ∃ j : Nat, j ≤ k + 1 - p ∧ i = .int .i64 (j : Nat) ∧ Hid (Below W5.heap.size W5 wr)) (fun i _ => (k + 1 - p) - (intOf i).toNat)
    case atStart => exact ⟨0, Nat.zero_le _, rfl, Below.refl _ _⟩
    case round =>
      obtain ⟨j, hj, rfl, HW⟩ := hrel
      by_cases hlt : j < k + 1 - p
      · obtain ⟨b, o, y, e, hbl, hy, hr⟩ := (HtAt.below HCUT.out HW.out).at_ hlt
        injection e with e; injection e with e1 e2 _
        subst e1 e2
        obtain rfl : y = x := by
          rw [List.getElem?_drop, List.getElem?_take] at hy
          split at hy
          · exact HLAW.out.2.1 _ y (by omega) (by omega) hy
          · cases hy
        have LI := load_htB hr
        obtain ⟨W6, hW6⟩ : ∃ W6, (wr.alloc (.cells hc0 29)).setCells wr.heap.size 0 (hitC y).toList = W6 := ⟨_, rfl⟩
        have SI := ht_put wr y
        rw [hW6] at SI
        have bx : Blk W6 wr.heap.size 29 (hitC y) := by rw [← hW6]; exact ht_blk wr y
        have b3 : Below wr.heap.size wr W6 := by rw [← hW6]; exact put_bel _ _ _
        have L1 := hit_load (x := y) bx
        have HB6 : Hid (Below W5.heap.size W5 W6) := HW.out.trans (b3.mono HW.out.size)
        have L2 := hit_load (x := y) (HX5.out.below HB6.out HX5.out.lt)
        clear bx b3 hy hr hbl hW6
        unfold hitV at LI SI L1 L2
        go_upto_region 16 with (first | refine wpList_loadE LI _ rfl rfl rfl ?_ | refine wpList_storeE SI _ _ rfl rfl rfl rfl ?_)
        clear LI SI
        go_wp2_with (first | refine wpList_loadE L1 _ rfl rfl rfl ?_ | refine wpList_loadE L2 _ rfl rfl rfl ?_)
        go_roundw
        case rel => exact ⟨j + 1, by omega, by go_num, HB6.out⟩
        case measure => simp [intOf]; omega
      · obtain rfl : j = k + 1 - p := by omega
        clear hlt hj
        obtain rfl | hp0 := Nat.eq_zero_or_pos p
        · go_upto_region 19 with fail
          refine wp_region_held_drew (S := fun w' => Below W5.heap.size W5 w') (by kernel_rfl) (below_drewN HW.out 1) (fun hH => ?_)
          refine wpAnyH_take (i := 0) (v := .int .i64 ((0 : Nat) : Int)) rfl (by kernel_rfl) (by kernel_rfl) (by kernel_rfl) (fun _ _ _ h => h) (.inl ⟨by rfl, fun _ _ => by kernel_rfl⟩) hH ?_
          (try simp only [List.getElem_toArray, List.getElem_cons_zero, Act.put, List.setIfInBounds_toArray, List.set_cons_zero, List.set_cons_succ])
          refine wpAnyH_take (i := 1) (v := .bool true) rfl (by kernel_rfl) (by kernel_rfl) (by kernel_rfl) (fun _ _ _ h => h) (yieldsIf_eqlK (by rfl) (by rfl) _ _ rfl rfl rfl) hH ?_
          (try simp only [List.getElem_toArray, List.getElem_cons_zero, List.getElem_cons_succ, Act.put, List.setIfInBounds_toArray, List.set_cons_zero, List.set_cons_succ])
          refine wpAnyH_take (i := 2) (v := .bool true) rfl (by kernel_rfl) (by kernel_rfl) (by kernel_rfl) (fun _ _ _ h => h) (.inl ⟨by rfl, fun _ _ => by kernel_rfl⟩) hH ?_
          (try simp only [List.getElem_toArray, List.getElem_cons_zero, List.getElem_cons_succ, Act.put, List.setIfInBounds_toArray, List.set_cons_zero, List.set_cons_succ])
          refine wpAnyH_take (i := 3) (v := undef) rfl (by kernel_rfl) (by kernel_rfl) (by kernel_rfl) (fun _ _ _ h => h) (.inr ⟨by rfl, rfl⟩) hH ?_
          (try simp only [List.getElem_toArray, List.getElem_cons_zero, List.getElem_cons_succ, Act.put, List.setIfInBounds_toArray, List.set_cons_zero, List.set_cons_succ])
          refine wpAnyH_take (i := 4) (v := undef) rfl (by kernel_rfl) (by kernel_rfl) (by kernel_rfl) (fun _ _ _ h => h) (.inr ⟨by rfl, rfl⟩) hH ?_
          (try simp only [List.getElem_toArray, List.getElem_cons_zero, List.getElem_cons_succ, Act.put, List.setIfInBounds_toArray, List.set_cons_zero, List.set_cons_succ])
          refine wpAnyH_take (i := 5) (v := undef) rfl (by kernel_rfl) (by kernel_rfl) (by kernel_rfl) (fun _ _ _ h => h) (.inr ⟨by rfl, rfl⟩) hH ?_
          (try simp only [List.getElem_toArray, List.getElem_cons_zero, List.getElem_cons_succ, Act.put, List.setIfInBounds_toArray, List.set_cons_zero, List.set_cons_succ])
          refine wpAnyH_take (i := 6) (v := undef) rfl (by kernel_rfl) (by kernel_rfl) (by kernel_rfl) (fun _ _ _ h => h) (.inr ⟨by rfl, rfl⟩) hH ?_
          (try simp only [List.getElem_toArray, List.getElem_cons_zero, List.getElem_cons_succ, Act.put, List.setIfInBounds_toArray, List.set_cons_zero, List.set_cons_succ])
          refine wpAnyH_take (i := 7) (v := undef) rfl (by kernel_rfl) (by kernel_rfl) (by kernel_rfl) (fun _ _ _ h => h) (.inr ⟨by rfl, rfl⟩) hH ?_
          (try simp only [List.getElem_toArray, List.getElem_cons_zero, List.getElem_cons_succ, Act.put, List.setIfInBounds_toArray, List.set_cons_zero, List.set_cons_succ])
          refine wpAnyH_take (i := 8) (v := undef) rfl (by kernel_rfl) (by kernel_rfl) (by kernel_rfl) (fun _ _ _ h => h) (.inr ⟨by rfl, rfl⟩) hH ?_
          (try simp only [List.getElem_toArray, List.getElem_cons_zero, List.getElem_cons_succ, Act.put, List.setIfInBounds_toArray, List.set_cons_zero, List.set_cons_succ])
          refine wpAnyH_take (i := 9) (v := undef) rfl (by kernel_rfl) (by kernel_rfl) (by kernel_rfl) (fun _ _ _ h => h) (.inr ⟨by rfl, rfl⟩) hH ?_
          (try simp only [List.getElem_toArray, List.getElem_cons_zero, List.getElem_cons_succ, Act.put, List.setIfInBounds_toArray, List.set_cons_zero, List.set_cons_succ])
          refine wpAnyH_take (i := 10) (v := .bool true) rfl (by kernel_rfl) (by kernel_rfl) (by kernel_rfl) (fun _ _ _ h => h) (.inl ⟨by rfl, fun _ _ => by kernel_rfl⟩) hH ?_
          (try simp only [List.getElem_toArray, List.getElem_cons_zero, List.getElem_cons_succ, Act.put, List.setIfInBounds_toArray, List.set_cons_zero, List.set_cons_succ])
          refine wpAnyH_take (i := 11) (v := .bool true) rfl (by kernel_rfl) (by kernel_rfl) (by kernel_rfl) (fun _ _ _ h => h) (.inl ⟨by rfl, fun _ _ => by kernel_rfl⟩) hH ?_
          (try simp only [List.getElem_toArray, List.getElem_cons_zero, List.getElem_cons_succ, Act.put, List.setIfInBounds_toArray, List.set_cons_zero, List.set_cons_succ])
          refine wpAnyH_done (by kernel_rfl) ?_ _
          go_wp2_with fail
          go_ret
          exact ⟨rfl, HB5.out.trans (Below.mono (below_drewN HW.out 1) HB5.out.size)⟩
        · have hpl : p - 1 < L.length := by have := HPL.out; omega
          obtain ⟨b, o, y, e, hbl, hy, hr⟩ := HS5.out.at_ hpl
          injection e with e; injection e with e1 e2 _
          subst e1 e2
          have HLY : Hid (∀ w', Below W5.heap.size W5 w' → w'.rangeAt g (0 + (p - 1) * 2) (htL y)) := fun w' t => rangeAt_keep hr fun j => t.cell (p := ⟨g, j, none⟩) hbl
          have HYX := Lib.hid (HLAW.out.2.2.1 (p - 1) y (by omega) hy)
          have HP0 : Hid (((((p : Nat) : Int) == 0)) = false) := by show _ = _; rw [beq_eq_false_iff_ne]; omega
          have HPS : Hid (IntKind.i64.wrap (((p : Nat) : Int) - 1) = ((p - 1 : Nat) : Int)) := by show _ = _; rw [IntKind.wrap_i64]; have := HPL.out; omega
          have HPLT := Lib.hid hpl
          clear hr hbl hy hpl
          go_upto_region 19 with fail
          refine wp_region_held_drew (S := fun w' => Below W5.heap.size W5 w') (by kernel_rfl) (below_drewN HW.out 1) (fun hH => ?_)
          refine wpAnyH_take (i := 0) (v := .int .i64 ((p : Nat) : Int)) rfl (by kernel_rfl) (by kernel_rfl) (by kernel_rfl) (fun _ _ _ h => h) (.inl ⟨by rfl, fun _ _ => by kernel_rfl⟩) hH ?_
          (try simp only [List.getElem_toArray, List.getElem_cons_zero, Act.put, List.setIfInBounds_toArray, List.set_cons_zero, List.set_cons_succ])
          refine wpAnyH_take (i := 1) (v := .bool false) rfl (by kernel_rfl) (by kernel_rfl) (by kernel_rfl) (fun _ _ _ h => h) (yieldsIf_eqlK HP0.out (by rfl) _ _ rfl rfl rfl) hH ?_
          (try simp only [List.getElem_toArray, List.getElem_cons_zero, List.getElem_cons_succ, Act.put, List.setIfInBounds_toArray, List.set_cons_zero, List.set_cons_succ])
          refine wpAnyH_take (i := 2) (v := .bool false) rfl (by kernel_rfl) (by kernel_rfl) (by kernel_rfl) (fun _ _ _ h => h) (.inl ⟨by rfl, fun _ _ => by kernel_rfl⟩) hH ?_
          (try simp only [List.getElem_toArray, List.getElem_cons_zero, List.getElem_cons_succ, Act.put, List.setIfInBounds_toArray, List.set_cons_zero, List.set_cons_succ])
          refine wpAnyH_take (i := 3) (v := .slice (some ⟨g, 0, none⟩) L.length c1) rfl (by kernel_rfl) (by kernel_rfl) (by kernel_rfl) (fun _ _ _ h => h) (.inl ⟨by rfl, fun _ _ => by kernel_rfl⟩) hH ?_
          (try simp only [List.getElem_toArray, List.getElem_cons_zero, List.getElem_cons_succ, Act.put, List.setIfInBounds_toArray, List.set_cons_zero, List.set_cons_succ])
          refine wpAnyH_take (i := 4) (v := .int .i64 ((p : Nat) : Int)) rfl (by kernel_rfl) (by kernel_rfl) (by kernel_rfl) (fun _ _ _ h => h) (.inl ⟨by rfl, fun _ _ => by kernel_rfl⟩) hH ?_
          (try simp only [List.getElem_toArray, List.getElem_cons_zero, List.getElem_cons_succ, Act.put, List.setIfInBounds_toArray, List.set_cons_zero, List.set_cons_succ])
          refine wpAnyH_take (i := 5) (v := .int .i64 ((p - 1 : Nat) : Int)) rfl (by kernel_rfl) (by kernel_rfl) (by kernel_rfl) (fun _ _ _ h => h) (yieldsIf_subK HPS.out (by rfl) _ _ rfl rfl rfl) hH ?_
          (try simp only [List.getElem_toArray, List.getElem_cons_zero, List.getElem_cons_succ, Act.put, List.setIfInBounds_toArray, List.set_cons_zero, List.set_cons_succ])
          refine wpAnyH_take (i := 6) (v := .pointer (some ⟨g, 0 + (p - 1) * 2, none⟩)) rfl (by kernel_rfl) (by kernel_rfl) (by kernel_rfl) (fun _ _ _ h => h) (yieldsIf_indexK Try.underlying26 sizeHit (by rfl) _ _ rfl rfl rfl HPLT.out) hH ?_
          (try simp only [List.getElem_toArray, List.getElem_cons_zero, List.getElem_cons_succ, Act.put, List.setIfInBounds_toArray, List.set_cons_zero, List.set_cons_succ])
          refine wpAnyH_take (i := 7) (v := hitV y) rfl (by kernel_rfl) (by kernel_rfl) (by kernel_rfl) (fun _ _ _ h => h) (yieldsIf_loadP (by rfl) _ rfl rfl (fun _ t => load_htB (HLY.out _ t))) hH ?_
          (try simp only [List.getElem_toArray, List.getElem_cons_zero, List.getElem_cons_succ, Act.put, List.setIfInBounds_toArray, List.set_cons_zero, List.set_cons_succ])
          refine wpAnyH_take (i := 8) (v := hitV x) rfl (by kernel_rfl) (by kernel_rfl) (by kernel_rfl) (fun _ _ _ h => h) (yieldsIf_loadP (by rfl) _ rfl rfl (fun _ t => hit_load (HX5.out.below t HX5.out.lt))) hH ?_
          (try simp only [List.getElem_toArray, List.getElem_cons_zero, List.getElem_cons_succ, Act.put, List.setIfInBounds_toArray, List.set_cons_zero, List.set_cons_succ])
          refine wpAnyH_call 9 9 #[hitV y, hitV x] _ (by kernel_rfl) (by rfl) (by kernel_rfl) (by kernel_rfl) (rank_hit y x _) ?_
          rintro e Z1 ⟨rfl, g1⟩
          rw [HYX.out]
          have h1 := hH.trans (g1.below.mono hH.size)
          refine ⟨_, rfl, h1, ?_⟩
          (try simp only [List.getElem_toArray, List.getElem_cons_zero, List.getElem_cons_succ, Act.put, List.setIfInBounds_toArray, List.set_cons_zero, List.set_cons_succ])
          refine wpAnyH_take (i := 10) (v := .bool true) rfl (by kernel_rfl) (by kernel_rfl) (by kernel_rfl) (fun _ _ _ h => h) (.inl ⟨by rfl, fun _ _ => by kernel_rfl⟩) h1 ?_
          (try simp only [List.getElem_toArray, List.getElem_cons_zero, List.getElem_cons_succ, Act.put, List.setIfInBounds_toArray, List.set_cons_zero, List.set_cons_succ])
          refine wpAnyH_take (i := 11) (v := .bool true) rfl (by kernel_rfl) (by kernel_rfl) (by kernel_rfl) (fun _ _ _ h => h) (.inl ⟨by rfl, fun _ _ => by kernel_rfl⟩) h1 ?_
          (try simp only [List.getElem_toArray, List.getElem_cons_zero, List.getElem_cons_succ, Act.put, List.setIfInBounds_toArray, List.set_cons_zero, List.set_cons_succ])
          refine wpAnyH_done (by kernel_rfl) ?_ _
          go_wp2_with fail
          go_ret
          exact ⟨rfl, HB5.out.trans (Below.mono h1 HB5.out.size)⟩
  · have HK : Hid (k0 < 0 ∨ (L.length : Int) ≤ k0) := by show _ ∨ _; omega
    clear hkr
    by_cases h0 : k0 < 0
    · have t0 : decide (k0 < 0) = true := decide_eq_true h0
      clear h0
      go_enter Try.func3, Try.ntmps3
      go_wp2_with (first | (go_at_call 5; (with_reducible refine HBG.out.mono ?_); rintro e w1 ⟨rfl, hb⟩; have HB1 := Lib.hid hb; clear hb) | (go_at_call 6; (with_reducible refine (HS1.out _ HB1.out).mono ?_); rintro e w2 ⟨g, n1, c1, rfl, hs, hc1, hc2, hb⟩; obtain rfl : L.length = n1 := (hs.len); have HB2 := Lib.hid (HB1.out.trans (hb.mono HB1.out.size)); clear hs hb hc1 hc2))
      go_ret
      exact ⟨rfl, HB2.out⟩
    · have t0 : decide (k0 < 0) = false := decide_eq_false h0
      obtain ⟨k, rfl⟩ : ∃ k : Nat, k0 = k := ⟨k0.toNat, by omega⟩
      have t1 : decide (L.length ≤ k) = true := decide_eq_true (by have := HK.out; omega)
      clear h0
      go_enter Try.func3, Try.ntmps3
      go_wp2_with (first | (go_at_call 5; (with_reducible refine HBG.out.mono ?_); rintro e w1 ⟨rfl, hb⟩; have HB1 := Lib.hid hb; clear hb) | (go_at_call 6; (with_reducible refine (HS1.out _ HB1.out).mono ?_); rintro e w2 ⟨g, n1, c1, rfl, hs, hc1, hc2, hb⟩; obtain rfl : L.length = n1 := (hs.len); have HB2 := Lib.hid (HB1.out.trans (hb.mono HB1.out.size)); clear hs hb hc1 hc2))
      go_ret
      exact ⟨rfl, HB2.out⟩
end Go.Proofs.Ytpbjndjbpihfmaa
