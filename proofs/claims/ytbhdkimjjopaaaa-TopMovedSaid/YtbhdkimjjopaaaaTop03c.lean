/- Walk of the law TopMoved. -/
import Derived.Test.YtbhdkimjjopaaaaTop03b
import Derived.Test.YtbhdkimjjopaaaaVecM
import Derived.StillTailTactics
import Derived.Deep.RegionWith
namespace Go.Proofs.Ytbhdkimjjopaaaa
open Go.RowKit
def movedL (xs ws : List Int) (n : Nat) : List Int := (List.range n).map fun i => ig xs i + ig ws i
theorem moved_len (xs ws : List Int) (n : Nat) : (movedL xs ws n).length = n := by simp [movedL]
theorem moved_ig {xs ws : List Int} {n i : Nat} (h : i < n) : ig (movedL xs ws n) i = ig xs i + ig ws i := by
  rw [movedL, ig, List.getD_eq_getElem?_getD, List.getElem?_map, List.getElem?_range h]; rfl
theorem dsq_moved (xs ys ws : List Int) (n : Nat) : ∀ k, k ≤ n → dsq (movedL xs ws n) (movedL ys ws n) k = dsq xs ys k := by
  intro k
  induction k with
  | zero => intro _; rfl
  | succ k ih =>
    intro h
    rw [dsq, dsq, ih (by omega), moved_ig (by omega), moved_ig (by omega)]
    congr 1
    unfold sqN
    rw [show ig xs k + ig ws k - (ig ys k + ig ws k) = ig xs k - ig ys k by omega]
/-- The middle of two is not far. -/
theorem mid_sq (a b : Int) : sqN ((a + b) / 2) a + sqN ((a + b) / 2) b ≤ sqN a b + 1 := by
  have h1 : (a + b) = 2 * ((a + b) / 2) + (a + b) % 2 := by omega
  obtain ⟨m, hm⟩ : ∃ m, (a + b) / 2 = m := ⟨_, rfl⟩
  obtain ⟨r, hr⟩ : ∃ r, (a + b) % 2 = r := ⟨_, rfl⟩
  have hr2 : r = 0 ∨ r = 1 := by omega
  rw [hm, hr] at h1
  rw [hm]
  have e1 := sqN_cast m a
  have e2 := sqN_cast m b
  have e3 := sqN_cast a b
  obtain ⟨d, hd⟩ : ∃ d, m - a = d := ⟨_, rfl⟩
  have f1 : m - b = -(d + r) := by omega
  have f2 : a - b = -(2 * d + r) := by omega
  rw [hd] at e1
  rw [f1] at e2
  rw [f2] at e3
  have g2 : -(d + r) * -(d + r) = d * d + 2 * (d * r) + r * r := by rw [Int.neg_mul_neg, Int.add_mul, Int.mul_add, Int.mul_add, Int.mul_comm r d]; omega
  have g3 : -(2 * d + r) * -(2 * d + r) = 4 * (d * d) + 4 * (d * r) + r * r := by
    rw [Int.neg_mul_neg, Int.add_mul, Int.mul_add, Int.mul_add, Int.mul_comm r (2 * d), Int.mul_assoc 2 d (2 * d), Int.mul_left_comm d 2 d, Int.mul_assoc 2 d r]; omega
  rw [g2] at e2
  rw [g3] at e3
  have hdd : 0 ≤ d * d := by have := sqN_cast d 0; rw [Int.sub_zero] at this; omega
  clear f1 f2 g2 g3 hd h1 hm hr
  rcases hr2 with hr2 | hr2
  · rw [hr2] at e2 e3
    simp only [Int.mul_zero, Int.add_zero] at e2 e3; omega
  · have h5 : 0 ≤ (d + 1) * d := by
      by_cases h' : d < 0
      · have := Int.mul_nonneg (show 0 ≤ -(d + 1) by omega) (show 0 ≤ -d by omega)
        rw [Int.neg_mul_neg] at this; exact this
      · exact Int.mul_nonneg (by omega) (by omega)
    rw [Int.add_mul, Int.one_mul] at h5
    rw [hr2] at e2 e3
    simp only [Int.mul_one] at e2 e3
    omega
theorem mid_dsq (xs ys : List Int) (n : Nat) : ∀ k, k ≤ n → dsq (meanL [xs, ys] n) xs k + dsq (meanL [xs, ys] n) ys k ≤ dsq xs ys k + k := by
  intro k
  induction k with
  | zero => intro _; simp [dsq]
  | succ k ih =>
    intro h
    have h1 := ih (by omega)
    have h2 := mid_sq (ig xs k) (ig ys k)
    have h3 : ig (meanL [xs, ys] n) k = (ig xs k + ig ys k) / 2 := by
      rw [mean_ig (by omega)]
      show (0 + ig xs k + ig ys k) / ((2 : Nat) : Int) = _
      rw [Int.zero_add]; rfl
    rw [dsq, dsq, dsq, h3]
    omega
/-- The law, plain. -/
theorem moved_law {xs ys ws : List Int} {m : Nat} (hx : chkV xs m = true) (hy : chkV ys m = true) :
    distE (movedL xs ws m) (movedL ys ws m) = distE xs ys ∧ distE (meanL [xs, ys] m) xs + distE (meanL [xs, ys] m) ys ≤ distE xs ys + m ∧ distE xs ys ≤ 4611686018427387904 := by
  obtain ⟨h1, h2, h3, h4⟩ := chk_open hx
  obtain ⟨_, _, g3, g4⟩ := chk_open hy
  have lx : xs.length = m := by omega
  have ly : ys.length = m := by omega
  have b1 := dsq_bd h4 g4 m
  have m1 := dsq_moved xs ys ws m m (Nat.le_refl _)
  have m2 := mid_dsq xs ys m m (Nat.le_refl _)
  unfold distE
  rw [moved_len, moved_len, mean_len, lx, ly, Nat.max_self, m1]
  omega
set_option maxRecDepth 100000 in
set_option maxHeartbeats 2000000 in
theorem topMoved_out (A : Option Addr) (m c : Nat) (xs : List Int) (B : Option Addr) (m' c' : Nat) (ys : List Int) (D : Option Addr) (m2 c2 : Nat) (ws : List Int) (w : World) (hr : Rd w w.heap.size A m (xs.map (.int .i32))) (hr' : Rd w w.heap.size B m' (ys.map (.int .i32))) (hr2 : Rd w w.heap.size D m2 (ws.map (.int .i32)))
    (hm : m ≤ 9223372036854775807) (hm' : m' ≤ 9223372036854775807) (hm2 : m2 ≤ 9223372036854775807) (h : chkV xs m = false ∨ chkV ys m = false ∨ chkV ws m = false) :
    Calls Try.prog 9 #[.slice A m c, .slice B m' c', .slice D m2 c2] w fun e w' => e = .returned (.bool true) ∧ Below w.heap.size w w' := by
  have T : Hid ((chkE xs m != 0) = true ∨ ((chkE xs m != 0) = false ∧ (chkE ys m != 0) = true) ∨ ((chkE xs m != 0) = false ∧ (chkE ys m != 0) = false ∧ (chkE ws m != 0) = true)) := by
    show _ ∨ _
    cases h1 : chkV xs m with
    | false => exact Or.inl (chk_ne h1)
    | true =>
      cases h2 : chkV ys m with
      | false => exact Or.inr (Or.inl ⟨chk_eq h1, chk_ne h2⟩)
      | true =>
        rw [h1, h2] at h
        simp at h
        exact Or.inr (Or.inr ⟨chk_eq h1, chk_eq h2, chk_ne h⟩)
  have X := Lib.hid hr
  have Y := Lib.hid hr'
  have Z := Lib.hid hr2
  clear hr hr' hr2 h
  obtain ⟨x, hx⟩ : ∃ x, chkE xs m = x := ⟨_, rfl⟩
  obtain ⟨y, hy⟩ : ∃ y, chkE ys m = y := ⟨_, rfl⟩
  obtain ⟨z, hz⟩ : ∃ z, chkE ws m = z := ⟨_, rfl⟩
  rw [hx, hy, hz] at T
  have HX := Lib.hid hx
  have HY := Lib.hid hy
  have HZ := Lib.hid hz
  clear hx hy hz
  rcases T.out with t1 | ⟨t1, t2⟩ | ⟨t1, t2, t3⟩
  all_goals
    go_enter Try.func9, Try.ntmps9
    go_wp2_with fail
    refine (begins3_any w).mono ?_
    rintro e w1 ⟨rfl, B1⟩
    have c1 := Lib.hid (vec_check A m c _ xs m w1 (X.out.below B1) hm)
    have c2' := Lib.hid (vec_check B m' c' _ ys m w1 (Y.out.below B1) hm')
    have c3 := Lib.hid (vec_check D m2 c2 _ ws m w1 (Z.out.below B1) hm2)
    rw [HX.out] at c1
    rw [HY.out] at c2'
    rw [HZ.out] at c3
    go_wp2_with (first
      | (go_at_call 16; (with_reducible refine c1.out.mono ?_); rintro e w' ⟨rfl, rfl⟩)
      | (go_at_call 16; (with_reducible refine c2'.out.mono ?_); rintro e w' ⟨rfl, rfl⟩)
      | (go_at_call 16; (with_reducible refine c3.out.mono ?_); rintro e w' ⟨rfl, rfl⟩))
    go_ret
    exact ⟨rfl, B1⟩
theorem two_new32 (w : World) (n : Nat) : IB (((w.alloc (.cells (madeCells #[.int .i32 0] n) 21)).alloc (.cells (madeCells #[.int .i32 0] n) 21)).drew) w.heap.size 21 .i32 (List.replicate n 0) ∧
    IB (((w.alloc (.cells (madeCells #[.int .i32 0] n) 21)).alloc (.cells (madeCells #[.int .i32 0] n) 21)).drew) (w.heap.size + 1) 21 .i32 (List.replicate n 0) := by
  have h1 := IB.made w 21 n .i32
  have h2 := IB.made (w.alloc (.cells (madeCells #[.int .i32 0] n) 21)) 21 n .i32
  have hs : (w.alloc (.cells (madeCells #[.int .i32 0] n) 21)).heap.size = w.heap.size + 1 := by simp
  rw [hs] at h2
  refine ⟨?_, h2⟩
  obtain ⟨rest, h⟩ := h1
  exact ⟨rest, (Below.heap_alloc _ _ _ (by rw [hs]; omega)).trans h⟩
theorem IB.far {w : World} {g t : Nat} {kd : IntKind} {cs : List Int} (h : IB w g t kd cs) {p : Addr} (hp : g ≠ p.block) (u : Value) : IB (w.setCell p u) g t kd cs := by
  obtain ⟨rest, h⟩ := h
  exact ⟨rest, (Below.heap_setCell w p u g hp).trans h⟩
theorem bd_of {xs : List Int} (h : ∀ k, -16777216 ≤ ig xs k ∧ ig xs k ≤ 16777216) : ∀ z ∈ xs, -2147483648 ≤ z ∧ z ≤ 2147483647 := fun z hz => by
  obtain ⟨i, hi, rfl⟩ := List.getElem_of_mem hz
  have := h i
  rw [ig, List.getD_eq_getElem?_getD, List.getElem?_eq_getElem hi] at this
  simp at this
  omega
theorem bd_ig_all {xs : List Int} (h : ∀ k, -2147483648 ≤ ig xs k ∧ ig xs k ≤ 2147483647) : ∀ z ∈ xs, -2147483648 ≤ z ∧ z ≤ 2147483647 := fun z hz => by
  obtain ⟨i, hi, rfl⟩ := List.getElem_of_mem hz
  have := h i
  rw [ig, List.getD_eq_getElem?_getD, List.getElem?_eq_getElem hi] at this
  simpa using this
theorem rdm_two {w : World} {A B : Option Addr} {m c c' : Nat} {xs ys : List Int} (t : Nat) (hx : Rd w w.heap.size A m (xs.map (.int .i32))) (hy : Rd w w.heap.size B m (ys.map (.int .i32))) (hc : m ≤ c) (hc' : m ≤ c') :
    RdM .i32 (w.alloc (.cells #[.slice A m c, .slice B m c'] t)) (w.alloc (.cells #[.slice A m c, .slice B m c'] t)).heap.size (some ⟨w.heap.size, 0, none⟩) 2 [xs, ys] := by
  have hb : Below w.heap.size w (w.alloc (.cells #[.slice A m c, .slice B m c'] t)) := (Below.refl _ _).alloc (Nat.le_refl _) _
  have lx := hx.lenI
  have ly := hy.lenI
  refine ⟨rfl, [.slice A m c, .slice B m c'], ⟨rfl, fun _ => ⟨w.heap.size, 0, rfl, by simp, fun k u hu => ?_⟩⟩, fun i hi => ?_⟩
  · rw [Nat.zero_add, cell_of_row _ w.heap.size k _ t (0, 0) (heap_alloc_new w _), ← hu]
    simp
  · have hx' := (hx.below hb).more hb.size
    have hy' := (hy.below hb).more hb.size
    match i, hi with
    | 0, _ =>
      have e : lg [xs, ys] 0 = xs := rfl
      rw [e]
      subst lx
      exact ⟨A, c, rfl, hc, hx'⟩
    | 1, _ =>
      have e : lg [xs, ys] 1 = ys := rfl
      rw [e, ly]
      exact ⟨B, c', rfl, hc', hy'⟩
/-- The first k places, moved. -/
def MovInv (xs ws : List Int) (n k : Nat) (cs : List Int) : Prop := cs.length = n ∧ ∀ i, i < k → ig cs i = ig xs i + ig ws i
theorem MovInv.step {xs ws : List Int} {n k : Nat} {cs : List Int} (h : MovInv xs ws n k cs) (hk : k < n) : MovInv xs ws n (k + 1) (cs.set k (ig xs k + ig ws k)) := by
  obtain ⟨h1, h2⟩ := h
  refine ⟨by rw [List.length_set]; exact h1, fun i hi => ?_⟩
  rw [ig_set (by omega)]
  split
  · rename_i e; subst e; rfl
  · exact h2 i (by omega)
theorem MovInv.all {xs ws : List Int} {n : Nat} {cs : List Int} (h : MovInv xs ws n n cs) : cs = movedL xs ws n :=
  ext_getD (by rw [h.1, moved_len]) fun i hi => by rw [h.2 i (by rw [h.1] at hi; exact hi), moved_ig (by rw [h.1] at hi; exact hi)]
set_option maxRecDepth 100000 in
set_option maxHeartbeats 4000000 in
theorem topMoved_walk (A : Option Addr) (m c : Nat) (xs : List Int) (B : Option Addr) (c' : Nat) (ys : List Int) (D : Option Addr) (c2 : Nat) (ws : List Int) (w : World) (hr : Rd w w.heap.size A m (xs.map (.int .i32))) (hr' : Rd w w.heap.size B m (ys.map (.int .i32))) (hr2 : Rd w w.heap.size D m (ws.map (.int .i32)))
    (hc : m ≤ c) (hc' : m ≤ c') (h1 : chkV xs m = true) (h2 : chkV ys m = true) (h3 : chkV ws m = true) :
    Calls Try.prog 9 #[.slice A m c, .slice B m c', .slice D m c2] w fun e w' => e = .returned (.bool true) ∧ Below w.heap.size w w' := by
  obtain ⟨l1, l2, l3⟩ := moved_law (ws := ws) h1 h2
  obtain ⟨x1, x2, x3, x4⟩ := chk_open h1
  obtain ⟨_, _, y3, y4⟩ := chk_open h2
  obtain ⟨_, _, w3, w4⟩ := chk_open h3
  have hm0 : 0 < m := by omega
  have hm4 : m ≤ 4096 := by omega
  have t1 := chk_eq h1
  have t2 := chk_eq h2
  have t3 := chk_eq h3
  have X := Lib.hid hr
  have Y := Lib.hid hr'
  have Z := Lib.hid hr2
  have X4 := Lib.hid x4
  have Y4 := Lib.hid y4
  have W4 := Lib.hid w4
  have LX : Hid (xs.length = m) := hr.lenI
  have LY : Hid (ys.length = m) := hr'.lenI
  obtain ⟨x, hcx⟩ : ∃ x, chkE xs m = x := ⟨_, rfl⟩
  obtain ⟨y, hcy⟩ : ∃ y, chkE ys m = y := ⟨_, rfl⟩
  obtain ⟨z, hcz⟩ : ∃ z, chkE ws m = z := ⟨_, rfl⟩
  rw [hcx] at t1
  rw [hcy] at t2
  rw [hcz] at t3
  have HCX := Lib.hid hcx
  have HCY := Lib.hid hcy
  have HCZ := Lib.hid hcz
  have L1 := Lib.hid l1
  have L2 := Lib.hid l2
  have hmk := fun (kl kc : IntKind) => run_make_row' (P := Try.prog) 22 21 (.int .i32 0) 4 Try.underlying22 info_int32 rfl kl kc m (by omega) (by omega)
  have HMK := Lib.hid (@hmk)
  clear hr hr' hr2 h1 h2 h3 x1 x2 x3 x4 y3 y4 w3 w4 hcx hcy hcz l1 l2 hmk
  go_enter Try.func9, Try.ntmps9
  go_wp2_with fail
  refine (begins3_any w).mono ?_
  rintro e w1 ⟨rfl, B1⟩
  have c1 := Lib.hid (vec_check A m c _ xs m w1 (X.out.below B1) (by omega))
  have c2' := Lib.hid (vec_check B m c' _ ys m w1 (Y.out.below B1) (by omega))
  have c3 := Lib.hid (vec_check D m c2 _ ws m w1 (Z.out.below B1) (by omega))
  rw [HCX.out] at c1
  rw [HCY.out] at c2'
  rw [HCZ.out] at c3
  have hmk := @(HMK.out)
  go_wp2_with (first
    | (go_at_call 16; (with_reducible refine c1.out.mono ?_); rintro e w' ⟨rfl, rfl⟩)
    | (go_at_call 16; (with_reducible refine c2'.out.mono ?_); rintro e w' ⟨rfl, rfl⟩)
    | (go_at_call 16; (with_reducible refine c3.out.mono ?_); rintro e w' ⟨rfl, rfl⟩))
  go_cut [7, 8] (fun a b wx => ∃ g1 g2 : Nat, a = .slice (some ⟨g1, 0, none⟩) m m ∧ b = .slice (some ⟨g2, 0, none⟩) m m ∧ g1 ≠ g2 ∧ w.heap.size ≤ g1 ∧ w.heap.size ≤ g2 ∧ IB wx g1 21 .i32 (List.replicate m 0) ∧ IB wx g2 21 .i32 (List.replicate m 0) ∧ Below w.heap.size w wx)
  case first =>
    have TN := Lib.hid (two_new32 w1 m)
    have hsz := B1.size
    have BN := Lib.hid (below_drewN ((B1.alloc hsz (.cells (madeCells #[.int .i32 0] m) 21)).alloc (by simp; omega) (.cells (madeCells #[.int .i32 0] m) 21)) 1)
    go_region_with (fail)
    all_goals
      go_wp2_with fail
      go_meet
      case rel => first
        | exact ⟨w1.heap.size, w1.heap.size + 1, rfl, rfl, by omega, hsz, by omega, TN.out.1, TN.out.2, BN.out⟩
        | exact ⟨w1.heap.size + 1, w1.heap.size, rfl, rfl, by omega, by omega, hsz, TN.out.2, TN.out.1, BN.out⟩
  case rest =>
    obtain ⟨g1, g2, rfl, rfl, hne, hg1, hg2, i1, i2, hB⟩ := hcut
    have I1 := Lib.hid i1
    have I2 := Lib.hid i2
    have HB := Lib.hid hB
    have V1 : Hid (MovInv xs ws m 0 (List.replicate m 0)) := ⟨by simp, fun i hi => by omega⟩
    have V2 : Hid (MovInv ys ws m 0 (List.replicate m 0)) := ⟨by simp, fun i hi => by omega⟩
    clear i1 i2 hB hmk c1 c2' c3 B1
    go_wp2_with fail
    go_loopw [41] (fun i wr => ∃ (k : Nat) (cs ds : List Int), k ≤ m ∧ i = .int .i64 k ∧ Hid (IB wr g1 21 .i32 cs) ∧ Hid (IB wr g2 21 .i32 ds) ∧ Hid (MovInv xs ws m k cs) ∧ Hid (MovInv ys ws m k ds) ∧ Hid (Below w.heap.size w wr)) (fun i _ => m - (intOf i).toNat)
    case atStart => exact ⟨0, _, _, Nat.zero_le _, rfl, I1, I2, V1, V2, HB⟩
    case round =>
      clear I1 I2 V1 V2 HB
      obtain ⟨k, cs, ds, hk, rfl, I1, I2, V1, V2, hB⟩ := hrel
      by_cases hlt : k < m
      · obtain ⟨bx, ox, rfl, hbx, hcx⟩ := X.out.atI hlt
        obtain ⟨by_, oy, rfl, hby, hcy⟩ := Y.out.atI hlt
        obtain ⟨bz, oz, rfl, hbz, hcz⟩ := Z.out.atI hlt
        have e1 := (hB.out.cell (p := ⟨bx, ox + k, none⟩) hbx).trans hcx
        have e3 := (hB.out.cell (p := ⟨bz, oz + k, none⟩) hbz).trans hcz
        have v1 := V1.out.1
        have v2 := V2.out.1
        have hf1 := I1.out.frozen k
        have hl1 := I1.out.cell (k := k) (by omega)
        have J1 := Lib.hid (I1.out.set_ (k := k) (by omega) (ig xs k + ig ws k))
        have J2 := I2.out.far (p := ⟨g1, k, none⟩) (by show g2 ≠ g1; omega) (.int .i32 (ig xs k + ig ws k))
        have B2 := hB.out.setCell (p := ⟨g1, k, none⟩) hg1 (.int .i32 (ig xs k + ig ws k))
        have M1 := Lib.hid (V1.out.step hlt)
        have M2 := Lib.hid (V2.out.step hlt)
        obtain ⟨x1, x2⟩ := X4.out k
        obtain ⟨y1, y2⟩ := Y4.out k
        obtain ⟨z1, z2⟩ := W4.out k
        have K1 := J1.out.far (p := ⟨g2, k, none⟩) (by show g1 ≠ g2; omega) (.int .i32 (ig ys k + ig ws k))
        have K2 := J2.set_ (k := k) (by omega) (ig ys k + ig ws k)
        have B3 := B2.setCell (p := ⟨g2, k, none⟩) hg2 (.int .i32 (ig ys k + ig ws k))
        obtain ⟨xa, hxa⟩ : ∃ x, ig xs k = x := ⟨_, rfl⟩
        obtain ⟨ya, hya⟩ : ∃ x, ig ys k = x := ⟨_, rfl⟩
        obtain ⟨za, hza⟩ : ∃ x, ig ws k = x := ⟨_, rfl⟩
        rw [hza] at z1 z2 J1 J2 B2 M1 M2 K1 K2 B3
        rw [hxa] at x1 x2 J1 J2 B2 M1 K1 K2 B3
        rw [hya] at y1 y2 M2 K1 K2 B3
        obtain ⟨W2, hW2⟩ : ∃ W2, wr.setCell ⟨g1, k, none⟩ (.int .i32 (xa + za)) = W2 := ⟨_, rfl⟩
        have HK1 := Lib.hid K1
        have HK2 := Lib.hid K2
        have HB3 := Lib.hid B3
        have HJ2 := Lib.hid J2
        have HB2 := Lib.hid B2
        have ia : (0 : Int) ≤ (k : Int) := by omega
        have ib : (k : Int) < (m : Int) := by omega
        have wa : IntKind.i32.wrap (xa + za) = xa + za := by unfold IntKind.wrap; simp [IntKind.bits, IntKind.signed]; omega
        clear v1 v2 K1 K2 B3 J2 B2
        have e1' := e1
        rw [hxa] at e1
        rw [hza] at e3
        have HXA := Lib.hid hxa
        have HYA := Lib.hid hya
        have HZA := Lib.hid hza
        have HCY := Lib.hid hcy
        have HCZ2 := Lib.hid hcz
        have HHW := Lib.hid hW2
        clear e1' hcx hcy hcz hxa hya hza hW2
        go_upto_region 9 with fail
        go_still_tail 12, (by kernel_rfl)
        change wpList _ _ _ _ _ wr.drew
        go_upto_region 10 with fail
        have hW2 := HHW.out
        have hcy := HCY.out
        have hcz := HCZ2.out
        have hxa := HXA.out
        have hya := HYA.out
        have hza := HZA.out
        rw [hW2]
        rw [hW2] at HK1 HK2 HB3 HJ2 HB2
        have e2 : W2.drew.cell? ⟨by_, oy + k, none⟩ = some (.int .i32 ya) := by
          have h1 := (HB2.out.cell (p := ⟨by_, oy + k, none⟩) hby).trans hcy
          rw [hya] at h1
          exact h1
        have e4 : W2.drew.cell? ⟨bz, oz + k, none⟩ = some (.int .i32 za) := by
          have h1 := (HB2.out.cell (p := ⟨bz, oz + k, none⟩) hbz).trans hcz
          rw [hza] at h1
          exact h1
        have hf2 : W2.drew.frozen? ⟨g2, k, none⟩ = false := HJ2.out.frozen k
        have hl2 : W2.drew.cell? ⟨g2, k, none⟩ = some (.int .i32 (ig ds k)) := HJ2.out.cell (k := k) (by rw [V2.out.1]; exact hlt)
        have wb : IntKind.i32.wrap (ya + za) = ya + za := by unfold IntKind.wrap; simp [IntKind.bits, IntKind.signed]; omega
        obtain ⟨W3, hW3⟩ : ∃ W3, W2.drew = W3 := ⟨_, rfl⟩
        rw [hW3] at e2 e4 hf2 hl2 ⊢
        have F1 : Hid (IB (W3.setCell ⟨g2, k, none⟩ (.int .i32 (ya + za))) g1 21 .i32 (cs.set k (xa + za))) := by
          show IB _ _ _ _ _
          rw [← hW3]; exact HK1.out
        have F2 : Hid (IB (W3.setCell ⟨g2, k, none⟩ (.int .i32 (ya + za))) g2 21 .i32 (ds.set k (ya + za))) := by
          show IB _ _ _ _ _
          rw [← hW3]; exact HK2.out
        have F3 : Hid (Below w.heap.size w (W3.setCell ⟨g2, k, none⟩ (.int .i32 (ya + za)))) := by
          show Below _ _ _
          rw [← hW3]; exact below_drewN HB3.out 1
        clear hW2 hW3 hcy hcz hxa hya hza wa e1 e3 hf1 hl1 HK1 HK2 HB3 HJ2 HB2
        go_still_tail 12, (by kernel_rfl)
        change wpList _ _ _ _ _ W3.drew
        go_wp2_with fail
        clear wb e2 e4
        go_roundw
        case rel => exact ⟨k + 1, _, _, by omega, by go_num, F1, F2, M1, M2, below_drewN F3.out 1⟩
        case measure => simp [intOf]; omega
      · obtain rfl : k = m := by omega
        obtain rfl := V1.out.all
        obtain rfl := V2.out.all
        have hmx := I1.out.rd
        have hmy := I2.out.rd
        rw [moved_len] at hmx hmy
        have X1 := (X.out.below hB.out).more hB.out.size
        have Y1 := (Y.out.below hB.out).more hB.out.size
        have bx := bd_of X4.out
        have by_ := bd_of Y4.out
        have bmx : ∀ z ∈ movedL xs ws k, -2147483648 ≤ z ∧ z ≤ 2147483647 := fun z hz => by
          obtain ⟨i, _, rfl⟩ := List.mem_map.1 hz
          have := X4.out i
          have := W4.out i
          omega
        have bmy : ∀ z ∈ movedL ys ws k, -2147483648 ≤ z ∧ z ≤ 2147483647 := fun z hz => by
          obtain ⟨i, _, rfl⟩ := List.mem_map.1 hz
          have := Y4.out i
          have := W4.out i
          omega
        have RM := Lib.hid (rdm_two 22 X1 Y1 hc hc')
        have hll : ∀ i, i < 2 → (lg [xs, ys] i).length = k := fun i hi => by
          match i, hi with
          | 0, _ => exact LX.out
          | 1, _ => exact LY.out
        have hbb : ∀ j i, -2147483648 ≤ ig (lg [xs, ys] j) i ∧ ig (lg [xs, ys] j) i ≤ 2147483647 := fun j i => by
          match j with
          | 0 => have := X4.out i; show -2147483648 ≤ ig xs i ∧ ig xs i ≤ _; omega
          | 1 => have := Y4.out i; show -2147483648 ≤ ig ys i ∧ ig ys i ≤ _; omega
          | j + 2 =>
            have e : lg [xs, ys] (j + 2) = [] := by simp [lg]
            rw [e]; exact ⟨by simp [ig], by simp [ig]⟩
        have bmm : ∀ z ∈ meanL [xs, ys] k, -2147483648 ≤ z ∧ z ≤ 2147483647 := fun z hz => by
          obtain ⟨i, _, rfl⟩ := List.mem_map.1 hz
          have h1 := X4.out i
          have h2 := Y4.out i
          have e : colS [xs, ys] i ([xs, ys] : List (List Int)).length / (([xs, ys] : List (List Int)).length : Int) = (ig xs i + ig ys i) / 2 := by
            show (0 + ig xs i + ig ys i) / ((2 : Nat) : Int) = _
            rw [Int.zero_add]; rfl
          rw [e]; omega
        have B3 := hB.out
        have B4 := B3.alloc B3.size (.cells #[.slice A k c, .slice B k c'] 22)
        have ba : Below wr.heap.size wr (wr.alloc (.cells #[.slice A k c, .slice B k c'] 22)) := (Below.refl _ _).alloc (Nat.le_refl _) _
        have HX1 := Lib.hid ((X1.below ba).more ba.size)
        have HY1 := Lib.hid ((Y1.below ba).more ba.size)
        have HMX := Lib.hid ((hmx.below ba).more ba.size)
        have HMY := Lib.hid ((hmy.below ba).more ba.size)
        have HLL := Lib.hid hll
        have HBB := Lib.hid hbb
        have HBX := Lib.hid bx
        have HBY := Lib.hid by_
        have HBMX := Lib.hid bmx
        have HBMY := Lib.hid bmy
        have HBMM := Lib.hid bmm
        obtain ⟨wq, hwq⟩ : ∃ wq, wr.alloc (.cells #[.slice A k c, .slice B k c'] 22) = wq := ⟨_, rfl⟩
        clear hmx hmy X1 Y1 hll hbb bx by_ bmx bmy bmm ba B3 hB I1 I2 V1 V2
        rw [hwq] at RM B4 HX1 HY1 HMX HMY
        have HWQ := Lib.hid hwq
        clear hwq
        go_wp2_with fail
        rw [HWQ.out]
        refine (vec_mean _ 2 2 k [xs, ys] wq RM.out (by decide) (by decide) (by omega) HLL.out HBB.out).mono ?_
        rintro e w5 ⟨A5, c5, rfl, hc5, hrd5, hb5⟩
        have B5 := B4.trans (hb5.mono B4.size)
        have d1 := vec_dist (some ⟨g1, 0, none⟩) k k _ (some ⟨g2, 0, none⟩) k k _ _ w5 ((HMX.out.below hb5).more hb5.size) ((HMY.out.below hb5).more hb5.size) HBMX.out HBMY.out (by omega) (by omega)
        have d2 := vec_dist A k c xs B k c' ys _ w5 ((HX1.out.below hb5).more hb5.size) ((HY1.out.below hb5).more hb5.size) HBX.out HBY.out (by omega) (by omega)
        have d3 := vec_dist A5 k c5 _ A k c xs _ w5 hrd5 ((HX1.out.below hb5).more hb5.size) HBMM.out HBX.out (by omega) (by omega)
        have d4 := vec_dist A5 k c5 _ B k c' ys _ w5 hrd5 ((HY1.out.below hb5).more hb5.size) HBMM.out HBY.out (by omega) (by omega)
        have hl1 := L1.out
        have hl2 := L2.out
        obtain ⟨u1, hu1⟩ : ∃ u, distE xs ys = u := ⟨_, rfl⟩
        obtain ⟨u2, hu2⟩ : ∃ u, distE (meanL [xs, ys] k) xs = u := ⟨_, rfl⟩
        obtain ⟨u3, hu3⟩ : ∃ u, distE (meanL [xs, ys] k) ys = u := ⟨_, rfl⟩
        rw [hl1] at d1
        rw [hu1] at d1 d2 hl2 l3
        rw [hu2] at d3 hl2
        rw [hu3] at d4 hl2
        have D1 := Lib.hid d1
        have D2 := Lib.hid d2
        have D3 := Lib.hid d3
        have D4 := Lib.hid d4
        have t9 : decide ((u2 : Int) + (u3 : Int) ≤ (u1 : Int) + (k : Int)) = true := by simp; omega
        clear d1 d2 d3 d4 hl1 hu1 hu2 hu3 hrd5 hb5
        go_wp2_with (first
          | (go_at_call 17; (with_reducible refine D1.out.mono ?_); rintro e w' ⟨rfl, rfl⟩)
          | (go_at_call 17; (with_reducible refine D2.out.mono ?_); rintro e w' ⟨rfl, rfl⟩)
          | (go_at_call 17; (with_reducible refine D3.out.mono ?_); rintro e w' ⟨rfl, rfl⟩)
          | (go_at_call 17; (with_reducible refine D4.out.mono ?_); rintro e w' ⟨rfl, rfl⟩))
        go_ret
        exact ⟨rfl, B5⟩
theorem topMoved_any (A : Option Addr) (m c : Nat) (xs : List Int) (B : Option Addr) (m' c' : Nat) (ys : List Int) (D : Option Addr) (m2 c2 : Nat) (ws : List Int) (w : World) (hr : Rd w w.heap.size A m (xs.map (.int .i32))) (hr' : Rd w w.heap.size B m' (ys.map (.int .i32))) (hr2 : Rd w w.heap.size D m2 (ws.map (.int .i32)))
    (hc : m ≤ c ∧ c ≤ maxLen) (hc' : m' ≤ c' ∧ c' ≤ maxLen) (hc2 : m2 ≤ c2 ∧ c2 ≤ maxLen) :
    Calls Try.prog 9 #[.slice A m c, .slice B m' c', .slice D m2 c2] w fun e w' => e = .returned (.bool true) ∧ Below w.heap.size w w' := by
  have hm : m ≤ 9223372036854775807 := by have := hc.2; unfold maxLen at this; omega
  have hm' : m' ≤ 9223372036854775807 := by have := hc'.2; unfold maxLen at this; omega
  have hm2 : m2 ≤ 9223372036854775807 := by have := hc2.2; unfold maxLen at this; omega
  by_cases h : chkV xs m = false ∨ chkV ys m = false ∨ chkV ws m = false
  · exact topMoved_out A m c xs B m' c' ys D m2 c2 ws w hr hr' hr2 hm hm' hm2 h
  · simp only [not_or, Bool.not_eq_false] at h
    obtain ⟨h1, h2, h3⟩ := h
    have e1 := (chk_open h2).2.2.1
    have e2 := (chk_open h3).2.2.1
    have e3 := hr'.lenI
    have e4 := hr2.lenI
    obtain rfl : m' = m := by omega
    obtain rfl : m2 = m' := by omega
    exact topMoved_walk A m2 c xs B c' ys D c2 ws w hr hr' hr2 hc.1 hc'.1 h1 h2 h3
end Go.Proofs.Ytbhdkimjjopaaaa
