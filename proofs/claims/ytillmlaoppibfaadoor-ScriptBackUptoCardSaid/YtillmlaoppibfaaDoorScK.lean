/- Scripts: acts, written. -/
import Derived.Test.YtillmlaoppibfaaDoorScH
import Derived.Test.YtillmlaoppibfaaDoorScC
import Derived.Test.YtillmlaoppibfaaDoorScF
import Derived.Test.YtillmlaoppibfaaDoorScA
namespace Go.Proofs.YtillmlaoppibfaaDoor
open Go.RowKit Go.Sort
/-- Acts as lines' acts. -/
def grp : Nat → List SAct → List (SAct × Nat)
  | 0, _ => []
  | _ + 1, [] => []
  | f + 1, a :: r => if runN (a :: r) = 0 then (a, 1) :: grp f r else (pickA a.wk, runN (a :: r)) :: grp f ((a :: r).drop (runN (a :: r)))
/-- Whether a line may be. -/
def gokB (g : SAct × Nat) : Bool := decide (0 ≤ g.1.wk ∧ g.1.wk ≤ 64) && (decide (g.1 = pickA g.1.wk ∧ 1 ≤ g.2) || formB g.1)
/-- Lines, written. -/
def textG (gs : List (SAct × Nat)) : List UInt8 := (gs.map fun g => lineN g ++ [10]).flatten
def hdrN (c : SCfg) : List UInt8 := storeW ++ tailW [c.dim.toNat, c.cap.toNat, c.links.toNat, c.ef.toNat, c.wks.toNat]
/-- A text, written; or why there is none. -/
def txtO (c : SCfg) (l : List SAct) : List UInt8 × Int :=
  if chkB c = false then ([], 1)
  else if 4096 < l.length then ([], 9)
  else if (grp (l.length + 1) l).all gokB = false then ([], 7)
  else if 65536 < (hdrN c ++ [10] ++ textG (grp (l.length + 1) l)).length then ([], 9)
  else (hdrN c ++ [10] ++ textG (grp (l.length + 1) l), 0)
theorem textG_snoc (gs : List (SAct × Nat)) (g : SAct × Nat) : textG (gs ++ [g]) = textG gs ++ (lineN g ++ [10]) := by unfold textG; simp
theorem runN_le : ∀ (l : List SAct), runN l ≤ l.length
  | [] => Nat.le_refl _
  | a :: r => by
    unfold runN
    exact (List.takeWhile_sublist _).length_le
/-- Another fuel. -/
theorem grp_fuel : ∀ (f f' : Nat) (l : List SAct), l.length < f → l.length < f' → grp f l = grp f' l
  | 0, _, l, h, _ => absurd h (by omega)
  | _, 0, l, _, h => absurd h (by omega)
  | f + 1, f' + 1, [], _, _ => rfl
  | f + 1, f' + 1, a :: r, h, h' => by
    unfold grp
    simp only [List.length_cons] at h h'
    split
    · rw [grp_fuel f f' r (by omega) (by omega)]
    · rename_i h0
      have hd : ((a :: r).drop (runN (a :: r))).length ≤ r.length := by rw [List.length_drop, List.length_cons]; omega
      rw [grp_fuel f f' _ (by omega) (by omega)]
theorem lineN_len (g : SAct × Nat) (hr : g.1.Rng) (hv : g.1.vec.length ≤ 1048576) (hn : g.2 ≤ 1048576) (hw : g.1.wk ≤ 64) (hk : g.1.k ≤ 4096 ∧ g.1.ef ≤ 4096) : (lineN g).length ≤ 24000000 := by
  have hz := tailZ_len g.1.vec hr.2.2.2
  have w1 := wordN_len g.1.kd
  have w2 := wordN_len 1
  have w4 := wordN_len 4
  have key : ∀ us : List Nat, us.length ≤ 4 → (∀ u ∈ us, u < 18446744073709551616) → (tailW us).length ≤ 84 := fun us h1 h2 => by
    have := tailW_len us h2
    omega
  obtain ⟨r1, r2, r3, _⟩ := hr
  unfold lineN
  split
  · have := key [g.1.wk.toNat, g.1.id, g.1.tg, g.1.dr] (by simp) (fun u hu => by simp at hu; omega)
    rw [List.length_append, List.length_append]; omega
  · split
    · have := key [g.1.wk.toNat, g.1.tg, g.1.k.toNat, g.1.ef.toNat] (by simp) (fun u hu => by simp at hu; omega)
      rw [List.length_append, List.length_append]; omega
    · split
      · have := key [g.1.wk.toNat, g.1.id] (by simp) (fun u hu => by simp at hu; omega)
        rw [List.length_append]; omega
      · split
        · have := key [g.1.wk.toNat] (by simp) (fun u hu => by simp at hu; omega)
          rw [List.length_append]; omega
        · have := key [g.1.wk.toNat, g.2] (by simp) (fun u hu => by simp at hu; omega)
          have hp : pickW.length = 4 := rfl
          rw [List.length_append]; omega
/-- A writer at its beginning. -/
theorem BwS.begin (w : World) (B b : Nat) (hb : Blk w b 47 #[.pointer none, .slice none 0 0]) (hB : B ≤ b) : BwS w B b [] :=
  .inl ⟨hB, .slice none 0 0, hb, ⟨by simp [bsO, Lib.strCells], .inl ⟨rfl, by simp [bsO, Lib.strCells]⟩⟩, by simp [Value.ownBlock]⟩
theorem convK (u : Nat) (hu : u ≤ 4611686018427387904) (w : World) : (convert 3 33 (.int .i64 (u : Nat))).run Tryd.prog w = .ok (.int .u64 (u : Nat)) w := by
  have e : IntKind.u64.wrap (u : Int) = u := by rw [IntKind.wrap_u64]; omega
  have := run_convert_int (P := Tryd.prog) w 3 33 .i64 (u : Int) (by kernel_rfl) (by kernel_rfl)
  rw [this, show Tryd.prog.intKind 33 = .u64 from by kernel_rfl, e]
theorem loadK_act {w : World} {b o : Nat} {xs : Array Value} (h : w.rangeAt b o xs.toList) (hs : xs.size = 8) : (Instr.loadAt 40 (.pointer (some ⟨b, o, none⟩))).run Tryd.prog w = .ok (.agg xs) w :=
  range_load h Tryd.underlying40 rfl (by rw [hs]; kernel_rfl)
theorem loadK_call {W : World} {g : Nat} {v0 v1 v2 v3 v4 v5 v6 v7 : Value} (h : Blk W g 40 #[v0, v1, v2, v3, v4, v5, v6, v7]) : (Instr.loadAt 38 (.pointer (some ⟨g, 1, none⟩))).run Tryd.prog W = .ok (.agg #[v1, v2, v3, v4, v5, v6, v7]) W :=
  row_load_mid h 1 #[v1, v2, v3, v4, v5, v6, v7] rfl Tryd.underlying38 rfl (by kernel_rfl)
/-- What Text answers. -/
def TxtR (c : SCfg) (l : List SAct) (w : World) (e : Ending) (w' : World) : Prop :=
  Below w.heap.size w w' ∧ e = .returned (.tuple #[.string (bsO (txtO c l).1), .int .i64 (txtO c l).2])
/-- Between the lines. -/
def LoopK (c : SCfg) (l : List SAct) (w wr : World) (b : Nat) (A : Option Addr) (n cp : Nat) : Prop :=
  ∃ (l' : List SAct) (gs : List (SAct × Nat)), AcsAt wr w.heap.size A n l' ∧ n ≤ cp ∧ BwS wr w.heap.size b (hdrN c ++ [10] ++ textG gs) ∧ Below w.heap.size w wr ∧ gs.all gokB = true ∧
    grp (l.length + 1) l = gs ++ grp (l'.length + 1) l' ∧ gs.length + l'.length ≤ 4096 ∧ (hdrN c ++ [10] ++ textG gs).length ≤ 200 + 24000001 * gs.length
theorem isP_not {a : SAct} (h : isP a.wk a = false) : ¬ a = pickA a.wk := fun e => by
  have : plainB a (pickA 0) = true := by rw [plainB_iff, e]; rfl
  unfold isP at h
  rw [this] at h
  simp at h
theorem runN_zero {a : SAct} {r : List SAct} (h : runN (a :: r) = 0) : isP a.wk a = false := by
  have h : ((a :: r).takeWhile (isP a.wk)).length = 0 := h
  cases q : isP a.wk a with
  | false => rfl
  | true => rw [List.takeWhile_cons, q, if_pos rfl] at h; simp at h
theorem grp_zero {a : SAct} {r : List SAct} (h : runN (a :: r) = 0) : grp ((a :: r).length + 1) (a :: r) = (a, 1) :: grp (r.length + 1) r := by
  rw [show (a :: r).length + 1 = (r.length + 1) + 1 from rfl, grp, if_pos h]
theorem grp_pos {a : SAct} {r : List SAct} (h : runN (a :: r) ≠ 0) : grp ((a :: r).length + 1) (a :: r) = (pickA a.wk, runN (a :: r)) :: grp (((a :: r).drop (runN (a :: r))).length + 1) ((a :: r).drop (runN (a :: r))) := by
  rw [show (a :: r).length + 1 = (r.length + 1) + 1 from rfl, grp, if_neg h]
  congr 1
  exact grp_fuel _ _ _ (by rw [List.length_drop, List.length_cons]; omega) (by omega)
theorem LoopK.next {c : SCfg} {l l' : List SAct} {w wr w' : World} {b n cp m : Nat} {A : Option Addr} {gs : List (SAct × Nat)} {g : SAct × Nat} {acc : List UInt8} (hA : AcsAt wr w.heap.size A n l') (hcp : n ≤ cp) (hm1 : 1 ≤ m) (hm : m ≤ n) (hacc : hdrN c ++ [10] ++ textG gs = acc)
    (hB : BwS w' w.heap.size b (acc ++ lineN g ++ [10])) (hbe : Below w.heap.size w wr) (hbw : Below w.heap.size wr w') (hgs : gs.all gokB = true) (hg : gokB g = true) (hgr : grp (l.length + 1) l = gs ++ grp (l'.length + 1) l') (hst : grp (l'.length + 1) l' = g :: grp ((l'.drop m).length + 1) (l'.drop m))
    (hcnt : gs.length + l'.length ≤ 4096) (hln : acc.length ≤ 200 + 24000001 * gs.length) (hlg : (lineN g).length ≤ 24000000) : LoopK c l w w' b (subB A m cp) (n - m) (cp - m) := by
  have hl := hA.len
  refine ⟨l'.drop m, gs ++ [g], (hA.below hbw).drop hm hcp, by omega, ?_, hbe.trans hbw, ?_, ?_, ?_, ?_⟩
  · rw [textG_snoc, ← List.append_assoc, hacc, ← List.append_assoc]
    exact hB
  · rw [List.all_append, hgs, List.all_cons, hg]
    rfl
  · rw [hgr, hst, List.append_assoc]
    rfl
  · rw [List.length_append, List.length_drop, List.length_singleton]
    omega
  · rw [textG_snoc, ← List.append_assoc, hacc, List.length_append, List.length_append, List.length_append, List.length_singleton, List.length_singleton]
    omega
theorem run_us5 (w : World) (a b c d e : Int) : (Instr.buildSlice 63 5 #[(0, .int .u64 a), (1, .int .u64 b), (2, .int .u64 c), (3, .int .u64 d), (4, .int .u64 e)]).run Tryd.prog w = .ok (.slice (some ⟨w.heap.size, 0, none⟩) 5 5) (w.alloc (.cells #[.int .u64 a, .int .u64 b, .int .u64 c, .int .u64 d, .int .u64 e] 33)) := by
  obtain ⟨i, hi, hz, hz1, hz2⟩ := info_parts info_u64z
  refine Go.run_buildSlice w _ _ 5 _ _ i (.int .u64 0) Tryd.underlying63 hi hz (by rw [hz1]; decide) (by rw [hz1]; decide) ?_
  rw [hz1]; kernel_rfl
set_option maxHeartbeats 16000000 in
set_option maxRecDepth 100000 in
/-- Acts, written, by the program. -/
theorem sc_text (c : SCfg) (A : Option Addr) (n cp : Nat) (l : List SAct) (w : World) (he : Env w) (hl : AcsAt w w.heap.size A n l) (hn : n ≤ 1048576) (hcp : n ≤ cp) :
    Calls Tryd.prog 5 #[c.v, .slice A n cp] w (TxtR c l w) := by
  obtain ⟨R, hR⟩ : ∃ R : Ending → World → Prop, R = TxtR c l w := ⟨_, rfl⟩
  rw [← hR]
  have HR := Lib.hid hR
  have HE := Lib.hid he
  have HL := Lib.hid hl
  have HLN := Lib.hid hl.len
  clear hR he hl
  obtain ⟨d, p, k, f, x⟩ := c
  have hb0 := bel_boxX w (.cells #[.int .i64 d, .int .i64 p, .int .i64 k, .int .i64 f, .int .i64 x] 23)
  obtain ⟨z, hz⟩ : ∃ z : Int, (if chkB ⟨d, p, k, f, x⟩ = true then (0 : Int) else 1) = z := ⟨_, rfl⟩
  obtain ⟨W1, hW1⟩ : ∃ W, w.alloc (.cells #[.int .i64 d, .int .i64 p, .int .i64 k, .int .i64 f, .int .i64 x] 23) = W := ⟨_, rfl⟩
  have hK1 : Blk W1 w.heap.size 23 #[.int .i64 d, .int .i64 p, .int .i64 k, .int .i64 f, .int .i64 x] := by rw [← hW1]; exact Blk.new _ _ _
  rw [hW1] at hb0
  have hs1 : W1.heap.size = w.heap.size + 1 := by rw [← hW1]; exact alloc_sizeX _ _
  have HCK : Hid (Calls Tryd.prog 8 #[.agg #[.int .i64 d, .int .i64 p, .int .i64 k, .int .i64 f, .int .i64 x]] W1 fun e w' => e = .returned (.int .i64 z) ∧ Below W1.heap.size W1 w') := by
    rw [← hz]
    exact mem_check ⟨d, p, k, f, x⟩ W1
  have HW1 := Lib.hid hW1
  have LD : (Instr.loadAt 23 (.pointer (some ⟨w.heap.size, 0, none⟩))).run Tryd.prog W1 = .ok (.agg #[.int .i64 d, .int .i64 p, .int .i64 k, .int .i64 f, .int .i64 x]) W1 := loadF_cfg hK1 rfl
  have HK1 := Lib.hid hK1
  have HB0 := Lib.hid hb0
  have HS1 := Lib.hid hs1
  have HZ := Lib.hid hz
  unfold SCfg.v
  simp only
  clear hb0 hz hW1 hK1 hs1
  go_enter Tryd.func5, Tryd.ntmps5
  go_upto_region 1 with fail
  rw [HW1.out]
  clear HW1
  go_wp2_with (first | refine wpList_loadE LD _ rfl rfl rfl ?_ | (go_at_call 8; refine HCK.out.mono ?_))
  first | rintro e w2 rfl hb2 | rintro e w2 ⟨rfl, hb2⟩
  have HB2 := Lib.hid (HB0.out.trans (hb2.mono HB0.out.size))
  have HK2 := Lib.hid (HK1.out.below hb2 HK1.out.lt)
  have HS2 : Hid (w.heap.size + 1 ≤ w2.heap.size) := by show _ ≤ _; have h1 := HS1.out; have h2 := hb2.size; omega
  clear hb2 LD HCK HB0 HK1 HS1
  by_cases hc : chkB ⟨d, p, k, f, x⟩ = true
  · have hz0 : z = 0 := by rw [← HZ.out, if_pos hc]
    subst hz0
    by_cases hlong : 4096 < n
    · have d1 : decide ((4096 : Int) < (n : Int)) = true := decide_eq_true (by omega)
      have d2 : (4096 : Int) < (n : Int) := by omega
      go_wp2
      rw [HR.out]
      refine ⟨HB2.out, ?_⟩
      unfold txtO
      rw [hc, if_neg (by decide), if_pos (by rw [HLN.out]; exact hlong)]
      rfl
    · have d1 : decide ((4096 : Int) < (n : Int)) = false := decide_eq_false (by omega)
      have d2 : ¬ (4096 : Int) < (n : Int) := by omega
      have hrg : (((1 ≤ d ∧ d ≤ 4096) ∧ (1 ≤ p ∧ p ≤ 4096)) ∧ (1 ≤ k ∧ k ≤ 32)) ∧ (1 ≤ f ∧ f ≤ 4096) ∧ (1 ≤ x ∧ x ≤ 64) := by
        simp only [chkB, Bool.and_eq_true, decide_eq_true_eq] at hc
        exact ⟨hc.1.1, hc.1.2, hc.2⟩
      obtain ⟨ud, rfl⟩ : ∃ u : Nat, d = u := ⟨d.toNat, by omega⟩
      obtain ⟨up, rfl⟩ : ∃ u : Nat, p = u := ⟨p.toNat, by omega⟩
      obtain ⟨uk, rfl⟩ : ∃ u : Nat, k = u := ⟨k.toNat, by omega⟩
      obtain ⟨uf, rfl⟩ : ∃ u : Nat, f = u := ⟨f.toNat, by omega⟩
      obtain ⟨ux, rfl⟩ : ∃ u : Nat, x = u := ⟨x.toNat, by omega⟩
      have HCK := Lib.hid hc
      have hcd := convK ud (by omega)
      have hcp1 := convK up (by omega)
      have hck1 := convK uk (by omega)
      have hcf1 := convK uf (by omega)
      have hcx1 := convK ux (by omega)
      have hu5 : ∀ u ∈ ([ud, up, uk, uf, ux] : List Nat), u < 18446744073709551616 := by
        intro u hu
        simp only [List.mem_cons, List.not_mem_nil, or_false] at hu
        omega
      obtain ⟨b, hb⟩ : ∃ b, w2.heap.size = b := ⟨_, rfl⟩
      obtain ⟨W3, hW3⟩ : ∃ W, w2.alloc (.cells #[.pointer none, .slice none 0 0] 47) = W := ⟨_, rfl⟩
      have hb3 := bel_boxX w2 (.cells #[.pointer none, .slice none 0 0] 47)
      have hwr : Blk W3 b 47 #[.pointer none, .slice none 0 0] := by rw [← hW3, ← hb]; exact Blk.new _ _ _
      rw [hW3] at hb3
      have hk3 := HK2.out.below hb3 HK2.out.lt
      have c0 : W3.cell? ⟨w.heap.size, 0, none⟩ = some (.int .i64 ud) := hk3.cell 0
      have c1 : W3.cell? ⟨w.heap.size, 1, none⟩ = some (.int .i64 up) := hk3.cell 1
      have c2 : W3.cell? ⟨w.heap.size, 2, none⟩ = some (.int .i64 uk) := hk3.cell 2
      have c3 : W3.cell? ⟨w.heap.size, 3, none⟩ = some (.int .i64 uf) := hk3.cell 3
      have c4 : W3.cell? ⟨w.heap.size, 4, none⟩ = some (.int .i64 ux) := hk3.cell 4
      have hbw := BwS.begin W3 w.heap.size b hwr (by have := HS2.out; omega)
      have hB3 : Below w.heap.size w W3 := HB2.out.trans (hb3.mono HB2.out.size)
      have hbx := bel_boxX W3 (.cells #[.int .u64 ud, .int .u64 up, .int .u64 uk, .int .u64 uf, .int .u64 ux] 33)
      have hszb : W3.heap.size ≠ b := fun e => by have := hwr.lt; omega
      have HWD : Hid (Calls Tryd.prog 9 #[.pointer (some ⟨b, 0, none⟩), .string ⟨#[115, 116, 111, 114, 101]⟩, .slice (some ⟨W3.heap.size, 0, none⟩) 5 5] (W3.alloc (.cells #[.int .u64 ud, .int .u64 up, .int .u64 uk, .int .u64 uf, .int .u64 ux] 33)) fun e w' => e = .returned (.tuple #[]) ∧ BwU w' w.heap.size b ([] ++ storeW ++ tailW [ud, up, uk, uf, ux]) ∧ BwF w.heap.size b (W3.alloc (.cells #[.int .u64 ud, .int .u64 up, .int .u64 uk, .int .u64 uf, .int .u64 ux] 33)) w') :=
        bw_word w.heap.size b W3.heap.size [] storeW [ud, up, uk, uf, ux] 5 5 rfl _ (HE.out.on (hB3.trans (hbx.mono hB3.size))) HE.out.lo (Nat.le_trans hB3.size hbx.size) (hbw.below hbx) (row_blk W3 [ud, up, uk, uf, ux]) hszb hu5 (by simp [storeW]) (by omega)
      have HF3 := Lib.hid (BwF.of (b := b) (Nat.le_refl _) (hB3.trans (hbx.mono hB3.size)))
      have HU5 := Lib.hid hu5
      have HB := Lib.hid hb
      have HW3 := Lib.hid hW3
      have HHD : Hid (hdrN ⟨ud, up, uk, uf, ux⟩ = storeW ++ tailW [ud, up, uk, uf, ux]) := rfl
      clear hb hW3 hb3 hwr hk3 hbw hB3 hbx hszb hu5 hrg hc HB2 HK2
      go_upto_region 6 with fail
      rw [HW3.out, HB.out]
      clear HW3 HB
      go_wp2_with (first
        | refine wpList_valR rfl (exec_buildA (qs := #[(0, .int .u64 ud), (1, .int .u64 up), (2, .int .u64 uk), (3, .int .u64 uf), (4, .int .u64 ux)]) rfl (by first | kernel_rfl | simp [Act.eval]) (run_us5 _ _ _ _ _ _)) ?_
        | (go_at_call 9; refine HWD.out.mono ?_))
      first | rintro e w4 rfl h4 f4 | rintro e w4 ⟨rfl, h4, f4⟩
      have HF4 := Lib.hid (HF3.out.trans f4)
      rw [List.nil_append] at h4
      have hl4 : (storeW ++ tailW [ud, up, uk, uf, ux]).length ≤ 110 := by
        have := tailW_len [ud, up, uk, uf, ux] HU5.out
        rw [List.length_append]
        simp only [List.length_cons, List.length_nil] at this
        have e : storeW.length = 5 := rfl
        omega
      have HVC := Lib.hid (bw_vector w.heap.size b _ [] none 0 0 w4 (HF4.out.env HE.out HE.out.lo) HE.out.lo HF4.out.1.size h4.s Rd.nil_ (by simp) (by omega) (by omega))
      have HL4 := Lib.hid hl4
      clear h4 f4 hl4 HWD HF3 c0 c1 c2 c3 c4 hcd hcp1 hck1 hcf1 hcx1
      go_wp2_with (go_at_call 10; refine HVC.out.mono ?_)
      first | rintro e w5 rfl h5 f5 | rintro e w5 ⟨rfl, h5, f5⟩
      have HF5 := Lib.hid (HF4.out.trans f5)
      have H0 : Hid (LoopK ⟨ud, up, uk, uf, ux⟩ l w w5 b A n cp) := by
        refine ⟨l, [], HL.out.below HF5.out.1, hcp, ?_, HF5.out.1, rfl, rfl, by rw [HLN.out, List.length_nil]; omega, ?_⟩
        · rw [HHD.out]
          have := h5.s
          simpa [tailZ, textG] using this
        · rw [HHD.out, textG, List.map_nil, List.flatten_nil, List.append_nil, List.length_append]
          have := HL4.out
          simp only [List.length_cons, List.length_nil]
          omega
      clear h5 f5 HVC HF4 HF5 HL4
      go_wp2_with fail
      go_loopw [1, 7, 8] (fun s1 _ _ wr => ∃ (A' : Option Addr) (n' cp' : Nat), s1 = .slice A' n' cp' ∧ Hid (LoopK ⟨ud, up, uk, uf, ux⟩ l w wr b A' n' cp')) (fun s1 _ _ _ => lenV s1)
      case atStart => exact ⟨A, n, cp, rfl, H0⟩
      case round =>
        clear H0
        obtain ⟨A', n', cp', rfl, HS⟩ := hrel
        obtain ⟨l', gs, hA, hcp', hB, hbe, hg, hgr, hcnt, hln⟩ := HS.out
        have HB := Lib.hid hB
        have HBE := Lib.hid hbe
        have HG := Lib.hid hg
        have HGR := Lib.hid hgr
        have HAL := Lib.hid hA.len
        have HAA := Lib.hid hA
        obtain ⟨acc, hacc⟩ : ∃ x, hdrN ⟨ud, up, uk, uf, ux⟩ ++ [10] ++ textG gs = x := ⟨_, rfl⟩
        have HACC := Lib.hid hacc
        rw [hacc] at HB hln
        have HALEN : Hid (acc.length ≤ 98304004300) := by show _ ≤ _; omega
        have HLEN := Lib.hid hln
        clear hA hB hbe hg hgr HS hacc hln
        by_cases h0 : 0 < n'
        · have hgt : decide ((0 : Int) < (n' : Int)) = true := decide_eq_true (by omega)
          have hgt2 : (0 : Int) < (n' : Int) := by omega
          cases l' with
          | nil => exact absurd HAL.out (by simp; omega)
          | cons a r =>
            have hn4 : n' ≤ 4096 := by rw [← HAL.out]; omega
            have HRN := sc_run A' n' cp' (a :: r) wr (HAA.out.more HBE.out.size) (by omega)
            obtain ⟨k, hk⟩ : ∃ k, runN (a :: r) = k := ⟨_, rfl⟩
            rw [hk] at HRN
            have HRN := Lib.hid HRN
            have hkl : k ≤ n' := by rw [← hk, ← HAL.out]; exact runN_le _
            have HK := Lib.hid hk
            clear hk
            go_wp2_with (go_at_call 11; refine HRN.out.mono ?_)
            first | rintro e y2 rfl hb2 | rintro e y2 ⟨rfl, hb2⟩
            have hby : Below w.heap.size wr y2 := hb2.mono HBE.out.size
            obtain ⟨b0, o0, V, vn, vc, rfl, hb0, hrg, hvc, hvn, hrd, hrng⟩ := (HAA.out.below hby).at_ (i := 0) (a := a) rfl
            have hrg : y2.rangeAt b0 o0 (actC a V vn vc) := by simpa using hrg
            have LDA : (Instr.loadAt 40 (.pointer (some ⟨b0, o0, none⟩))).run Tryd.prog y2 = .ok (.agg #[.int .i64 a.wk, .int .i64 a.kd, .int .u64 a.id, .slice V vn vc, .int .u64 a.tg, .int .i64 a.k, .int .i64 a.ef, .int .u64 a.dr]) y2 := loadK_act hrg rfl
            obtain ⟨P, hP⟩ : ∃ P, y2.heap.size = P := ⟨_, rfl⟩
            obtain ⟨y3, hy3⟩ : ∃ W, y2.alloc (.cells #[.int .i64 a.wk, .int .i64 a.kd, .int .u64 a.id, .slice V vn vc, .int .u64 a.tg, .int .i64 a.k, .int .i64 a.ef, .int .u64 a.dr] 40) = W := ⟨_, rfl⟩
            have hbx := bel_boxX y2 (.cells #[.int .i64 a.wk, .int .i64 a.kd, .int .u64 a.id, .slice V vn vc, .int .u64 a.tg, .int .i64 a.k, .int .i64 a.ef, .int .u64 a.dr] 40)
            have hpb : Blk y3 P 40 #[.int .i64 a.wk, .int .i64 a.kd, .int .u64 a.id, .slice V vn vc, .int .u64 a.tg, .int .i64 a.k, .int .i64 a.ef, .int .u64 a.dr] := by rw [← hy3, ← hP]; exact Blk.new _ _ _
            rw [hy3] at hbx
            have hby3 : Below w.heap.size wr y3 := hby.trans (hbx.mono (Nat.le_trans HBE.out.size hby.size))
            have HBY := Lib.hid hby3
            have HBS : Hid (BwS y3 w.heap.size b acc) := (HB.out.below hb2).below hbx
            have HRD : Hid (Rd y3 w.heap.size V vn (a.vec.map (.int .i32))) := hrd.below (hbx.mono (Nat.le_trans HBE.out.size hby.size))
            have HRNG := Lib.hid hrng
            have HVL : Hid (a.vec.length ≤ 1048576) := by show _ ≤ _; rw [hrd.lenI]; exact hvn
            have p0 : y3.cell? ⟨P, 0, none⟩ = some (.int .i64 a.wk) := hpb.cell 0
            have LC : (Instr.loadAt 38 (.pointer (some ⟨P, 1, none⟩))).run Tryd.prog y3 = .ok (.agg #[.int .i64 a.kd, .int .u64 a.id, .slice V vn vc, .int .u64 a.tg, .int .i64 a.k, .int .i64 a.ef, .int .u64 a.dr]) y3 := loadK_call hpb
            have HY3 := Lib.hid hy3
            have HP := Lib.hid hP
            have hbP : P ≠ b := fun e => by have := HB.out.lt; have := hb2.size; omega
            have hf : ∀ g : SAct × Nat, g.1.wk = a.wk → gokB g = false → grp ((a :: r).length + 1) (a :: r) = g :: grp (((a :: r).drop g.2).length + 1) ((a :: r).drop g.2) → txtO ⟨ud, up, uk, uf, ux⟩ l = ([], 7) := fun g _ h1 h2 => by
              unfold txtO
              rw [HCK.out, if_neg (by decide), if_neg (by rw [HLN.out]; omega), HGR.out, h2, if_pos]
              rw [List.all_append, List.all_cons, h1]
              simp
            have hst0 : k = 0 → grp ((a :: r).length + 1) (a :: r) = (a, 1) :: grp (((a :: r).drop 1).length + 1) ((a :: r).drop 1) := fun q => grp_zero (HK.out.trans q)
            have hst1 : k ≠ 0 → grp ((a :: r).length + 1) (a :: r) = (pickA a.wk, k) :: grp (((a :: r).drop k).length + 1) ((a :: r).drop k) := fun q => by
              have := grp_pos (a := a) (r := r) (by rw [HK.out]; exact q)
              rw [HK.out] at this
              exact this
            have HF := Lib.hid hf
            have HST0 := Lib.hid hst0
            have HST1 := Lib.hid hst1
            have HBO : Hid (Below w.heap.size w y3) := HBE.out.trans hby3
            clear hb2 hby hb0 hrg hvc hrd hrng hP hbx hpb hby3 hy3 hf hst0 hst1
            go_upto_region 11 with (refine wpList_loadE LDA _ rfl rfl rfl ?_)
            rw [HY3.out, HP.out]
            clear HY3 HP LDA
            by_cases hw : 0 ≤ a.wk ∧ a.wk ≤ 64
            · obtain ⟨u, hu⟩ : ∃ u : Nat, a.wk = u := ⟨a.wk.toNat, by omega⟩
              have hu64 : u ≤ 64 := by omega
              have hcu := convK u (by omega)
              have d5 : decide (a.wk < 0) = false := decide_eq_false (by omega)
              have d6 : decide (64 < a.wk) = false := decide_eq_false (by omega)
              have HU := Lib.hid hu
              rw [hu] at p0 d5 d6
              by_cases hk0 : k = 0
              · subst hk0
                have hform : gokB (a, 1) = formB a := by
                  unfold gokB
                  have h1 : ¬ (a = pickA a.wk) := isP_not (runN_zero HK.out)
                  rw [decide_eq_true (show 0 ≤ a.wk ∧ a.wk ≤ 64 from hw), decide_eq_false (show ¬ (a = pickA a.wk ∧ 1 ≤ 1) from fun q => h1 q.1)]
                  simp
                have HCL := bw_call w.heap.size b acc a V vn vc y3 (HE.out.on HBO.out) HE.out.lo HBO.out.size HBS.out HRD.out HRNG.out u hu hu64 hvn (by have := HALEN.out; omega)
                unfold callC at HCL
                obtain ⟨fb, hfb⟩ : ∃ q, formB a = q := ⟨_, rfl⟩
                rw [hfb] at HCL hform
                have HCL := Lib.hid HCL
                have HFM := Lib.hid hform
                have HFB := Lib.hid hfb
                clear hform hfb hu hw
                go_wp2_with (first | refine wpList_loadE LC _ rfl rfl rfl ?_ | (go_at_call 12; refine HCL.out.mono ?_))
                first | rintro e y4 rfl f4 h4 | rintro e y4 ⟨rfl, f4, h4⟩
                have HF4 := Lib.hid f4
                cases fb with
                | false =>
                  clear h4 f4
                  go_wp2
                  rw [HR.out]
                  exact ⟨HBO.out.trans HF4.out.1, by rw [HF.out (a, 1) rfl HFM.out (by first | exact HST0.out rfl | exact HST0.out trivial)]; rfl⟩
                | true =>
                  have hbounds : a.k ≤ 4096 ∧ a.ef ≤ 4096 := by
                    have q := HFB.out
                    simp only [formB, decide_eq_true_eq] at q
                    omega
                  have hlg := lineN_len (a, 1) HRNG.out HVL.out (by show 1 ≤ _; omega) (by show a.wk ≤ 64; have := HU.out; omega) hbounds
                  have HN := Lib.hid (LoopK.next HAA.out hcp' (Nat.le_refl 1) (by omega) HACC.out (by have q := (h4 rfl).s; simpa only [List.append_assoc] using q) HBE.out (HBY.out.trans HF4.out.1) HG.out HFM.out HGR.out (by first | exact HST0.out rfl | exact HST0.out trivial) hcnt HLEN.out hlg)
                  have hsl := run_fromY (some ⟨b0, o0, none⟩) n' cp' 1 (by omega)
                  obtain ⟨A2, hA2⟩ : ∃ A2, subB (some ⟨b0, o0, none⟩) 1 cp' = A2 := ⟨_, rfl⟩
                  rw [hA2] at hsl HN
                  have hsl : ∀ W, (Instr.slice 24 (.slice (some ⟨b0, o0, none⟩) n' cp') (some (.int .i64 1)) none none).run Tryd.prog W = .ok (.slice A2 (n' - 1) (cp' - 1)) W := hsl
                  have hm01 : max (0 : Int) 1 = 1 := by omega
                  clear h4 f4 hbounds hlg hA2
                  go_wp2
                  go_roundw
                  case rel => exact ⟨A2, n' - 1, cp' - 1, rfl, HN⟩
                  case measure => simp [lenV]; omega
              · have dk : decide ((0 : Int) < (k : Int)) = true := decide_eq_true (by omega)
                have dk2 : (0 : Int) < (k : Int) := by omega
                have hck := convK k (by omega)
                have hmx : max (k : Int) 1 = k := by omega
                have hbx4 := bel_boxX y3 (.cells #[.int .u64 u, .int .u64 k] 33)
                have hus : ∀ v ∈ ([u, k] : List Nat), v < 18446744073709551616 := by
                  intro v hv
                  simp only [List.mem_cons, List.not_mem_nil, or_false] at hv
                  omega
                have HWD2 : Hid (Calls Tryd.prog 9 #[.pointer (some ⟨b, 0, none⟩), .string ⟨#[112, 105, 99, 107]⟩, .slice (some ⟨y3.heap.size, 0, none⟩) 2 2] (y3.alloc (.cells #[.int .u64 u, .int .u64 k] 33)) fun e w' => e = .returned (.tuple #[]) ∧ BwU w' w.heap.size b (acc ++ pickW ++ tailW [u, k]) ∧ BwF w.heap.size b (y3.alloc (.cells #[.int .u64 u, .int .u64 k] 33)) w') :=
                  bw_word w.heap.size b y3.heap.size acc pickW [u, k] 2 2 rfl _ (HE.out.on (HBO.out.trans (hbx4.mono HBO.out.size))) HE.out.lo (Nat.le_trans HBO.out.size hbx4.size) (HBS.out.below hbx4) (row_blk y3 [u, k]) (fun e => by have := HBS.out.lt; omega) hus (by have := HALEN.out; simp [pickW]; omega) (by omega)
                have HFX := Lib.hid (BwF.of (b := b) HBO.out.size hbx4)
                have HUS := Lib.hid hus
                clear hus hbx4 hu hw
                go_wp2_with (first
                  | refine wpList_valR rfl (exec_buildA (qs := #[(0, .int .u64 u), (1, .int .u64 k)]) rfl (by first | kernel_rfl | simp [Act.eval]) (run_us2 _ _ _)) ?_
                  | (go_at_call 9; refine HWD2.out.mono ?_))
                first | rintro e y4 rfl h4 f4 | rintro e y4 ⟨rfl, h4, f4⟩
                have HF4 := Lib.hid (HFX.out.trans f4)
                have hl4 : (acc ++ pickW ++ tailW [u, k]).length ≤ acc.length + 100 := by
                  have := tailW_len [u, k] HUS.out
                  rw [List.length_append, List.length_append]
                  simp only [List.length_cons, List.length_nil] at this
                  have e : pickW.length = 4 := rfl
                  omega
                have HVC2 := Lib.hid (bw_vector w.heap.size b _ [] none 0 0 y4 (HE.out.on (HBO.out.trans HF4.out.1)) HE.out.lo (Nat.le_trans HBO.out.size HF4.out.1.size) h4.s Rd.nil_ (by simp) (by have := HALEN.out; omega) (by omega))
                clear h4 f4 hl4 HWD2 HFX
                go_wp2_with (go_at_call 10; refine HVC2.out.mono ?_)
                first | rintro e y5 rfl h5 f5 | rintro e y5 ⟨rfl, h5, f5⟩
                have hg : gokB (pickA a.wk, k) = true := by
                  unfold gokB
                  have h1 := HU.out
                  rw [decide_eq_true (show 0 ≤ (pickA a.wk).wk ∧ (pickA a.wk).wk ≤ 64 from ⟨by show 0 ≤ a.wk; omega, by show a.wk ≤ 64; omega⟩), decide_eq_true (show pickA a.wk = pickA (pickA a.wk).wk ∧ 1 ≤ k from ⟨rfl, by omega⟩)]
                  rfl
                have hlg := lineN_len (pickA a.wk, k) ⟨by show 0 ≤ _; omega, by show 0 ≤ _; omega, by show 0 ≤ _; omega, by simp [pickA]⟩ (by simp [pickA]) (by show k ≤ _; omega) (by show a.wk ≤ 64; have := HU.out; omega) ⟨by show (0 : Int) ≤ 4096; omega, by show (0 : Int) ≤ 4096; omega⟩
                have hln : lineN (pickA a.wk, k) = pickW ++ tailW [u, k] := by
                  have h1 := HU.out
                  show pickW ++ tailW [a.wk.toNat, k] = _
                  rw [h1, Int.toNat_natCast]
                have hB5 : BwS y5 w.heap.size b (acc ++ lineN (pickA a.wk, k) ++ [10]) := by
                  rw [hln]
                  have := h5.s
                  simpa [tailZ] using this
                have HN := Lib.hid (LoopK.next HAA.out hcp' (show 1 ≤ k by omega) hkl HACC.out hB5 HBE.out (HBY.out.trans (HF4.out.1.trans f5.1)) HG.out hg HGR.out (HST1.out hk0) hcnt HLEN.out hlg)
                have hsl := run_fromY (some ⟨b0, o0, none⟩) n' cp' k hkl
                obtain ⟨A2, hA2⟩ : ∃ A2, subB (some ⟨b0, o0, none⟩) k cp' = A2 := ⟨_, rfl⟩
                rw [hA2] at hsl HN
                have hsl : ∀ W, (Instr.slice 24 (.slice (some ⟨b0, o0, none⟩) n' cp') (some (.int .i64 (k : Nat))) none none).run Tryd.prog W = .ok (.slice A2 (n' - k) (cp' - k)) W := hsl
                clear h5 f5 hg hlg hln hB5 hA2 HVC2
                go_wp2
                go_roundw
                case rel => exact ⟨A2, n' - k, cp' - k, rfl, HN⟩
                case measure => simp [lenV]; omega
            · have hbad : ∀ n : Nat, gokB (a, n) = false ∧ gokB (pickA a.wk, n) = false := fun n => by
                unfold gokB
                constructor
                · rw [decide_eq_false hw]; rfl
                · rw [decide_eq_false (show ¬ (0 ≤ (pickA a.wk).wk ∧ (pickA a.wk).wk ≤ 64) from hw)]; rfl
              have HNO : Hid (txtO ⟨ud, up, uk, uf, ux⟩ l = ([], 7)) := by
                by_cases hk0 : k = 0
                · exact HF.out (a, 1) rfl (hbad 1).1 (HST0.out hk0)
                · exact HF.out (pickA a.wk, k) rfl (hbad k).2 (HST1.out hk0)
              by_cases hneg : a.wk < 0
              · have d5 : decide (a.wk < 0) = true := decide_eq_true hneg
                clear LC
                go_wp2
                rw [HR.out]
                exact ⟨HBO.out, by rw [HNO.out]; rfl⟩
              · have d5 : decide (a.wk < 0) = false := decide_eq_false hneg
                have d6 : decide (64 < a.wk) = true := decide_eq_true (by omega)
                have d7 : 64 < a.wk := by omega
                clear LC
                go_wp2
                rw [HR.out]
                exact ⟨HBO.out, by rw [HNO.out]; rfl⟩
        · have hn0 : n' = 0 := by omega
          subst hn0
          have hl0 : l' = [] := List.length_eq_zero_iff.1 HAL.out
          subst hl0
          have HLW := Lib.hid (bw_len w.heap.size b acc wr HB.out)
          have hpos : 0 < acc.length := by rw [← HACC.out, List.length_append, List.length_append]; simp only [List.length_singleton]; omega
          have HST := Lib.hid (bw_string w.heap.size b acc wr HB.out hpos (by have := HALEN.out; omega))
          have htx : txtO ⟨ud, up, uk, uf, ux⟩ l = if 65536 < acc.length then ([], 9) else (acc, 0) := by
            have hgr := HGR.out
            rw [show grp (([] : List SAct).length + 1) [] = [] from rfl, List.append_nil] at hgr
            unfold txtO
            rw [HCK.out, if_neg (by decide), if_neg (by rw [HLN.out]; omega), hgr, HG.out, if_neg (by decide), HACC.out]
          have HTX := Lib.hid htx
          clear htx hpos
          by_cases hlen : 65536 < acc.length
          · have d3 : decide ((65536 : Int) < (acc.length : Int)) = true := decide_eq_true (by omega)
            have d4 : (65536 : Int) < (acc.length : Int) := by omega
            go_wp2_with (go_at_call 13; refine HLW.out.mono ?_; rintro e w' ⟨rfl, hw'⟩; rw [hw']; clear hw')
            rw [HR.out]
            exact ⟨HBE.out, by rw [HTX.out, if_pos hlen]; rfl⟩
          · have d3 : decide ((65536 : Int) < (acc.length : Int)) = false := decide_eq_false (by omega)
            have d4 : ¬ (65536 : Int) < (acc.length : Int) := by omega
            go_wp2_with (first
              | (go_at_call 13; refine HLW.out.mono ?_; rintro e w' ⟨rfl, hw'⟩; rw [hw']; clear hw')
              | (go_at_call 14; refine HST.out.mono ?_))
            first | rintro e w9 rfl h9 f9 | rintro e w9 ⟨rfl, h9, f9⟩
            have HB9 := Lib.hid (HBE.out.trans f9.1)
            clear h9 f9
            go_wp2
            rw [HR.out]
            exact ⟨HB9.out, by rw [HTX.out, if_neg hlen]; rfl⟩
  · have hz1 : z = 1 := by rw [← HZ.out, if_neg hc]
    subst hz1
    have hcf : chkB ⟨d, p, k, f, x⟩ = false := by cases q : chkB ⟨d, p, k, f, x⟩ with | true => exact absurd q hc | false => rfl
    go_wp2
    rw [HR.out]
    refine ⟨HB2.out, ?_⟩
    unfold txtO
    rw [if_pos hcf]
    rfl
end Go.Proofs.YtillmlaoppibfaaDoor
