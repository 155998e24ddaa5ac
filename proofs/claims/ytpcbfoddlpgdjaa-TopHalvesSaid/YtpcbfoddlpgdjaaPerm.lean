/- Walks: numbers in another order, in the program and in the reference. -/
import Derived.Test.YtpcbfoddlpgdjaaMem
import Derived.Test.YtpcbfoddlpgdjaaRngW
import Derived.Deep.RegionWith
namespace Go.Proofs.Ytpcbfoddlpgdjaa
open Go.RowKit
/-- The place that the i-th place changes with. -/
def permK (seed : Int) (i : Nat) : Nat := (belowI (atI seed i) (i + 1)).toNat
theorem permK_le (seed : Int) (i : Nat) : permK seed i ≤ i := by
  have := belowI_bd (n := (i : Int) + 1) (word_at seed i) (by omega)
  unfold permK; omega
theorem permK_cast (seed : Int) (i : Nat) : belowI (atI seed i) (i + 1) = (permK seed i : Int) := by
  have := belowI_bd (n := (i : Int) + 1) (word_at seed i) (by omega)
  unfold permK; omega
def swapI (l : List Int) (i k : Nat) : List Int := (l.set i (ig l k)).set k (ig l i)
def permFrom (seed : Int) : Nat → List Int → List Int
  | 0, l => l
  | i + 1, l => permFrom seed i (swapI l (i + 1) (permK seed (i + 1)))
def upto (n : Nat) : List Int := (List.range n).map Int.ofNat
/-- Numbers in another order. -/
def permI (seed : Int) (n : Nat) : List Int := permFrom seed (n - 1) (upto n)
/-- How many of them. -/
def permLen (n : Int) : Nat := (min (max n 0) 4096).toNat
theorem len_swap (l : List Int) (i k : Nat) : (swapI l i k).length = l.length := by simp [swapI]
theorem len_from (seed : Int) (i : Nat) : ∀ l, (permFrom seed i l).length = l.length := by
  induction i with
  | zero => intro l; rfl
  | succ i ih => intro l; rw [permFrom, ih, len_swap]
theorem len_perm (seed : Int) (n : Nat) : (permI seed n).length = n := by simp [permI, len_from, upto]
theorem len_upto (n : Nat) : (upto n).length = n := by simp [upto]
noncomputable def swapOps : List Oper := regionOf Try.f17 11
set_option maxHeartbeats 800000 in
/-- The exchange of two places, in whatever order Go takes it. -/
theorem swap_only (R : Act → World → Prop) (wr : World) (g i k kk : Nat) (cs : List Int) (hl : Hid (cs.length = k)) (hib : IB wr g 3 .i64 cs) (hi : i < k) (hk : kk < k)
    (u0 u1 u2 u3 u4 u6 u9 u10 u11 u12 u13 u14 u15 u16 u17 u18 u19 u20 u21 u22 u23 u24 u25 u26 u27 u28 u29 u30 u31 u32 u33 u34 u35 u36 u37 u38 u39 u40 u41 u42 u43 u44 u45 u46 u47 u48 u49 u50 u51 u52 : Value)
    (hQ : ∀ u38 u39 u40 u41 u42 u43 u44 u45 u46 u47 u48 u49 u50 u51, R ⟨#[u0, u1, u2, u3, u4, .slice (some ⟨g, 0, none⟩) k k, u6, .int .i64 i, .int .u64 kk, u9, u10, u11, u12, u13, u14, u15, u16, u17, u18, u19, u20, u21, u22, u23, u24, u25, u26, u27, u28, u29, u30, u31, u32, u33, u34, u35, u36, u37, u38, u39, u40, u41, u42, u43, u44, u45, u46, u47, u48, u49, u50, u51, u52], []⟩ ((wr.setCell ⟨g, i, none⟩ (.int .i64 (ig cs kk))).setCell ⟨g, kk, none⟩ (.int .i64 (ig cs i))).drew) :
    Code.wp Try.prog (Code.region 11 swapOps.toArray true) (OnlyN R) ⟨#[u0, u1, u2, u3, u4, .slice (some ⟨g, 0, none⟩) k k, u6, .int .i64 i, .int .u64 kk, u9, u10, u11, u12, u13, u14, u15, u16, u17, u18, u19, u20, u21, u22, u23, u24, u25, u26, u27, u28, u29, u30, u31, u32, u33, u34, u35, u36, u37, u38, u39, u40, u41, u42, u43, u44, u45, u46, u47, u48, u49, u50, u51, u52], []⟩ wr := by
  have hc1 := hib.cell (k := i) (by rw [hl.out]; omega)
  have hc2 := hib.cell (k := kk) (by rw [hl.out]; omega)
  have hf1 := hib.frozen i
  have hf2 := hib.frozen kk
  have hs1 : Hid (IB _ _ _ _ _) := hib.set_ (k := i) (by rw [hl.out]; omega) (ig cs kk)
  obtain ⟨v3, hc3⟩ : ∃ v3, (wr.setCell ⟨g, i, none⟩ (.int .i64 (ig cs kk))).cell? ⟨g, kk, none⟩ = some v3 := ⟨_, hs1.out.cell (by rw [List.length_set, hl.out]; omega)⟩
  have hf3 := hs1.out.frozen kk
  clear hs1 hib
  have b1 : (0 : Int) ≤ (kk : Int) := by omega
  have b2 : (kk : Int) < (k : Int) := by omega
  have b3 : (0 : Int) ≤ (i : Int) := by omega
  have b4 : (i : Int) < (k : Int) := by omega
  conv => arg 2; arg 2; arg 1; whnf
  have HQ := Lib.hid hQ
  clear hQ
  go_region_with (fail)
  all_goals exact HQ.out ..
theorem swap_reg (Q : Exit → Act → World → Prop) (wr : World) (g i k kk : Nat) (cs : List Int) (hl : Hid (cs.length = k)) (hib : IB wr g 3 .i64 cs) (hi : i < k) (hk : kk < k)
    (u0 u1 u2 u3 u4 u6 u9 u10 u11 u12 u13 u14 u15 u16 u17 u18 u19 u20 u21 u22 u23 u24 u25 u26 u27 u28 u29 u30 u31 u32 u33 u34 u35 u36 u37 u38 u39 u40 u41 u42 u43 u44 u45 u46 u47 u48 u49 u50 u51 u52 : Value)
    (hQ : ∀ u38 u39 u40 u41 u42 u43 u44 u45 u46 u47 u48 u49 u50 u51, Q .normal ⟨#[u0, u1, u2, u3, u4, .slice (some ⟨g, 0, none⟩) k k, u6, .int .i64 i, .int .u64 kk, u9, u10, u11, u12, u13, u14, u15, u16, u17, u18, u19, u20, u21, u22, u23, u24, u25, u26, u27, u28, u29, u30, u31, u32, u33, u34, u35, u36, u37, u38, u39, u40, u41, u42, u43, u44, u45, u46, u47, u48, u49, u50, u51, u52], []⟩ ((wr.setCell ⟨g, i, none⟩ (.int .i64 (ig cs kk))).setCell ⟨g, kk, none⟩ (.int .i64 (ig cs i))).drew) :
    Code.wp Try.prog (Code.region 11 swapOps.toArray true) Q ⟨#[u0, u1, u2, u3, u4, .slice (some ⟨g, 0, none⟩) k k, u6, .int .i64 i, .int .u64 kk, u9, u10, u11, u12, u13, u14, u15, u16, u17, u18, u19, u20, u21, u22, u23, u24, u25, u26, u27, u28, u29, u30, u31, u32, u33, u34, u35, u36, u37, u38, u39, u40, u41, u42, u43, u44, u45, u46, u47, u48, u49, u50, u51, u52], []⟩ wr :=
  Code.wp_mono (OnlyN.out fun _ _ h => h) (swap_only (Q .normal) wr g i k kk cs hl hib hi hk u0 u1 u2 u3 u4 u6 u9 u10 u11 u12 u13 u14 u15 u16 u17 u18 u19 u20 u21 u22 u23 u24 u25 u26 u27 u28 u29 u30 u31 u32 u33 u34 u35 u36 u37 u38 u39 u40 u41 u42 u43 u44 u45 u46 u47 u48 u49 u50 u51 u52 hQ)
set_option maxHeartbeats 800000 in
/-- What Perm tells, and where it lies. -/
def RetPm (l : List Int) (w : World) (e : Ending) (w' : World) : Prop := (∃ c, e = .returned (.slice (some ⟨w.heap.size, 0, none⟩) l.length c) ∧ l.length ≤ c ∧ Rd w' w'.heap.size (some ⟨w.heap.size, 0, none⟩) l.length (l.map (.int .i64))) ∧ Below w.heap.size w w'
set_option maxRecDepth 100000 in
set_option maxHeartbeats 4000000 in
theorem rng_permA (seed n : Int) (w : World) :
    Calls Try.prog 17 #[.int .u64 seed, .int .i64 n] w (RetPm (permI seed (permLen n)) w) := by
  obtain ⟨q, hq⟩ : ∃ q : Nat, min (max n 0) 4096 = (q : Int) := ⟨permLen n, by unfold permLen; omega⟩
  have hq' : q ≤ 4096 := by omega
  have HQ : Hid (permLen n = q) := by show _ = _; unfold permLen; omega
  have hmk := fun (kl kc : IntKind) => run_make_row' (P := Try.prog) 46 3 (.int .i64 0) 8 Try.underlying46 info_int rfl kl kc q (by omega) (by omega)
  go_enter Try.func17, Try.ntmps17
  go_wp2
  have h0 := IB.made w 3 q .i64
  have hb0 : Below w.heap.size w (w.alloc (.cells (madeCells #[.int .i64 0] q) 3)) := (Below.refl _ _).alloc (Nat.le_refl _) _
  generalize w.alloc (.cells (madeCells #[.int .i64 0] q) 3) = W at h0 hb0 ⊢
  clear hmk hq
  go_loopw [15] (fun i wr => ∃ (k : Nat) (cs : List Int), k ≤ q ∧ i = .int .i64 k ∧ Hid (cs.length = q) ∧ IB wr w.heap.size 3 .i64 cs ∧ Below w.heap.size w wr ∧ Hid (∀ j, j < k → ig cs j = j)) (fun i _ => q - (intOf i).toNat)
  case atStart => exact ⟨0, _, Nat.zero_le _, rfl, List.length_replicate, h0, hb0, fun j hj => by omega⟩
  case round =>
    clear h0 hb0
    obtain ⟨k, cs, hk, rfl, hl, hib, hb, hv⟩ := hrel
    by_cases hlt : k < q
    · have hc := hib.cell (k := k) (by rw [hl.out]; omega)
      have hf := hib.frozen k
      go_wp2
      go_roundw
      case rel => exact ⟨k + 1, _, by omega, by go_num, by show _ = _; rw [List.length_set]; exact hl.out, hib.set_ (by rw [hl.out]; omega) k, hb.setCell (Nat.le_refl _) _, fun j hj => by
        rw [ig_set (by rw [hl.out]; omega)]
        split
        · rename_i h; rw [h]
        · exact hv.out j (by omega)⟩
      case measure => simp [intOf]; omega
    · obtain rfl : k = q := by omega
      have hu : cs = upto k := ext_getD (hl.out.trans (len_upto k).symm) fun j hj => by
        rw [hv.out j (by rw [← hl.out]; exact hj)]
        simp [ig, upto, List.getD_eq_getElem?_getD, (show j < k by rw [← hl.out]; exact hj)]
      subst hu
      go_wp2
      clear hl hv hlt hk W
      go_loopw [7] (fun v wr => ∃ (z : Int) (cs : List Int), z < k ∧ -1 ≤ z ∧ v = .int .i64 z ∧ Hid (cs.length = k) ∧ IB wr w.heap.size 3 .i64 cs ∧ Below w.heap.size w wr ∧ Hid (permFrom seed z.toNat cs = permI seed k)) (fun v _ => (intOf v + 1).toNat)
      case atStart => exact ⟨_, _, by omega, by omega, rfl, len_upto k, hib, hb, by show _ = _; rw [permI, show ((k : Int) - 1).toNat = k - 1 by omega]⟩
      case round =>
        clear hib hb
        obtain ⟨z, cs, hz1, hz2, rfl, hl, hib, hb, hv⟩ := hrel
        by_cases hlt : 0 < z
        · obtain ⟨i, rfl⟩ := Int.eq_ofNat_of_zero_le (show 0 ≤ z by omega)
          obtain ⟨kk, kle, kc, hp⟩ : ∃ kk : Nat, kk ≤ i ∧ Hid (belowI (atI seed i) (i + 1) = (kk : Int)) ∧ Hid (permFrom seed i cs = permFrom seed (i - 1) (swapI cs i kk)) := by
            refine ⟨permK seed i, permK_le seed i, permK_cast seed i, ?_⟩
            obtain ⟨j, rfl⟩ : ∃ j, i = j + 1 := ⟨i - 1, by omega⟩
            rfl
          have hs1 : Hid (IB _ _ _ _ _) := hib.set_ (k := i) (by rw [hl.out]; omega) (ig cs kk)
          have hs2 : Hid (IB _ _ _ _ _) := hs1.out.set_ (k := kk) (by rw [List.length_set, hl.out]; omega) (ig cs i)
          have hb2 : Hid (Below _ _ _) := (hb.setCell (p := ⟨w.heap.size, i, none⟩) (Nat.le_refl _) (.int .i64 (ig cs kk))).setCell (p := ⟨w.heap.size, kk, none⟩) (Nat.le_refl _) (.int .i64 (ig cs i))
          go_wp2_with (first
            | (go_at_call 34; refine (rng_at _ _ _).mono ?_; rintro e w' ⟨rfl, rfl⟩)
            | (go_at_call 33; refine (rng_below _ _ (word_at _ _) (word_small (by omega) (by omega)) _).mono ?_; rintro e w' ⟨rfl, rfl⟩; rw [kc.out]))
          refine swap_reg _ wr w.heap.size i k kk cs hl hib (by omega) (by omega) _ _ _ _ _ _ _ _ _ _ _ _ _ _ _ _ _ _ _ _ _ _ _ _ _ _ _ _ _ _ _ _ _ _ _ _ _ _ _ _ _ _ _ _ _ _ _ _ _ _ ?_
          clear hib hb
          intro x0 x1 x2 x3 x4 x5 x6 x7 x8 x9 x10 x11 x12 x13
          go_wp2
          go_roundw
          case rel => exact ⟨_, _, by omega, by omega, rfl, by show _ = _; rw [List.length_set, List.length_set]; exact hl.out, hs2.out, hb2.out.drew, by
            show _ = _
            rw [show ((i : Int) - 1).toNat = i - 1 by omega]
            exact hp.out.symm.trans hv.out⟩
          case measure => simp [intOf]
        · have hz : z.toNat = 0 := by omega
          have HV : Hid (cs = permI seed k) := by rw [hz] at hv; exact hv.out
          go_wp2
          go_ret
          have hlen : (permI seed (permLen n)).length = k := by rw [HQ.out, len_perm]
          refine ⟨⟨k, by rw [hlen]; rfl, by omega, ?_⟩, hb⟩
          have := hib.rd
          rw [hl.out] at this
          rw [hlen, HQ.out, ← HV.out]
          exact this

theorem rng_perm (seed n : Int) (w : World) :
    Calls Try.prog 17 #[.int .u64 seed, .int .i64 n] w (RetL .i64 (permI seed (permLen n)) w) :=
  (rng_permA seed n w).mono fun _ _ ⟨⟨c, h1, h2, h3⟩, hb⟩ => ⟨⟨_, c, h1, h2, h3⟩, hb⟩
theorem upto_succ (k : Nat) : upto (k + 1) = upto k ++ [(k : Int)] := by simp [upto, List.range_succ]
theorem permLen_eq (n : Int) : permLen n = (min (max n 0) 4096).toNat := rfl
end Go.Proofs.Ytpcbfoddlpgdjaa
