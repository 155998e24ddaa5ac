/- Images, plain law: there and back; one byte turned; what an image is made of. Merged of ImX ImY ImZ ImB1 ImB2. -/
import Derived.Test.YtbpcddimnbjoeaaImQK
import Derived.Test.YtbpcddimnbjoeaaLitB
import Derived.Test.YtbpcddimnbjoeaaPackAll
import Derived.Test.YtbpcddimnbjoeaaPmGM
import Derived.Test.YtbpcddimnbjoeaaPmS
import Derived.Lib.ConvBytes
import Derived.Laws.IdiomStrings
namespace Go.Proofs.Ytbpcddimnbjoeaa
open Go.RowKit
theorem numsZ_cons (z : Int) (zs : List Int) : numsZ (z :: zs) = numL (nz z) ++ numsZ zs := by simp [numsZ]
theorem take_back {z : Int} {lo hi : Nat} (h1 : (lo : Int) ≤ z) (h2 : z ≤ hi) (hh : hi < 18446744073709551616) (rest : List Int) : takeR ⟨numL (nz z) ++ rest, 0⟩ lo hi = (⟨rest, 0⟩, z.toNat) := by
  have hz : nz z = z.toNat := by unfold nz; omega
  have hn := numOf_num (nz z) (nz_lt z) rest
  unfold takeR
  rw [if_pos rfl, hn]
  dsimp only
  rw [if_pos rfl, if_neg (by omega), List.drop_left, hz]
theorem vec_back : ∀ (zs a rest : List Int), (∀ z ∈ zs, -2147483648 ≤ z ∧ z ≤ 2147483647) → vecR zs.length ⟨numsZ (zs.map zigF) ++ rest, 0⟩ a = (⟨rest, 0⟩, a ++ zs)
  | [], a, rest, _ => by simp [vecR, numsZ]
  | z :: zs, a, rest, h => by
    have hz := h z (by simp)
    obtain ⟨q1, q2, q3⟩ := zagzig z (by omega) (by omega)
    have hb : zigF z ≤ 4294967295 := by unfold zigF; split <;> omega
    rw [List.length_cons, vecR, if_pos rfl, List.map_cons, numsZ_cons, List.append_assoc, take_back (by omega) hb (by decide)]
    dsimp only
    rw [q1, vec_back zs _ rest fun z hz => h z (by simp [hz]), List.append_assoc]
    rfl
theorem lis_back (nn : Nat) (hn : 1 ≤ nn ∧ nn ≤ 4097) : ∀ (xs a rest : List Int), (∀ x ∈ xs, 0 ≤ x ∧ x < nn) → lisR nn xs.length ⟨numsZ xs ++ rest, 0⟩ a = (⟨rest, 0⟩, a ++ xs)
  | [], a, rest, _ => by simp [lisR, numsZ]
  | x :: xs, a, rest, h => by
    have hx := h x (by simp)
    rw [List.length_cons, lisR, if_pos rfl, numsZ_cons, List.append_assoc, take_back (by omega) (by omega) (by omega)]
    dsimp only
    rw [lis_back nn hn xs _ rest fun x hx => h x (by simp [hx]), List.append_assoc, Int.toNat_of_nonneg hx.1]
    rfl
/-- A list that may be printed. -/
def LisOk (lk nn lv : Nat) (l : IS) : Prop := l.n = l.xs.length ∧ (l.xs.length : Int) ≤ mostE lk lv ∧ ∀ x ∈ l.xs, 0 ≤ x ∧ x < nn
theorem lv_back {lk nn lv : Nat} (hn : 1 ≤ nn ∧ nn ≤ 4097) {l : IS} (h : LisOk lk nn lv l) (rest : List Int) : lv1R lk nn lv ⟨numsZ (lsZ l) ++ rest, 0⟩ = (⟨rest, 0⟩, l.xs) := by
  have hm := mostE_bd lk lv
  obtain ⟨h1, h2, h3⟩ := h
  unfold lv1R lsZ
  rw [numsZ_cons, List.append_assoc, take_back (by omega) (by omega) (by omega)]
  dsimp only
  rw [h1, Int.toNat_natCast, lis_back nn hn l.xs [] rest h3, List.nil_append]
theorem lss_back {lk nn : Nat} (hn : 1 ≤ nn ∧ nn ≤ 4097) : ∀ (ls : List IS) (lv : Nat) (a : List IS) (rest : List Int), (∀ j l, ls[j]? = some l → LisOk lk nn (lv + j) l) → lssR lk nn ls.length lv ⟨numsZ (ls.flatMap lsZ) ++ rest, 0⟩ a = (⟨rest, 0⟩, a ++ ls.map IS.norm)
  | [], lv, a, rest, _ => by simp [lssR, numsZ]
  | l :: ls, lv, a, rest, h => by
    have hl := h 0 l rfl
    rw [List.length_cons, lssR, if_pos rfl, List.flatMap_cons, numsZ_app, List.append_assoc, lv_back hn (by simpa using hl)]
    dsimp only
    rw [lss_back hn ls (lv + 1) _ rest fun j l hj => by
      have := h (j + 1) l hj
      rw [show lv + 1 + j = lv + (j + 1) by omega]; exact this]
    have hi : isN l.xs = l.norm := by unfold isN IS.norm; rw [hl.1]
    rw [hi, List.append_assoc]
    rfl
/-- A node that may be printed. -/
def NodOk (lk nn : Nat) (d : ND) : Prop := (0 ≤ d.id ∧ d.id ≤ 18446744073709551615) ∧ (0 ≤ d.tags ∧ d.tags ≤ 18446744073709551615) ∧ (d.vec.n = d.vec.xs.length ∧ d.vec.n ≤ 4096) ∧ (∀ z ∈ d.vec.xs, -2147483648 ≤ z ∧ z ≤ 2147483647) ∧ (0 ≤ d.level ∧ d.level ≤ 7) ∧ (d.ls.length = d.ln ∧ (d.ln : Int) = d.level + 1) ∧ (∀ j l, d.ls[j]? = some l → LisOk lk nn j l) ∧ (0 ≤ d.next ∧ d.next < nn) ∧ (0 ≤ d.prev ∧ d.prev < nn)
theorem nod_back {lk nn : Nat} (hn : 1 ≤ nn ∧ nn ≤ 4097) {d : ND} (h : NodOk lk nn d) (rest : List Int) : nodR lk nn ⟨numsZ (ndZ d) ++ rest, 0⟩ = (⟨rest, 0⟩, d.norm) := by
  obtain ⟨h1, h2, h3, h4, h5, h6, h7, h8, h9⟩ := h
  have e : numsZ (ndZ d) ++ rest = numL (nz 1) ++ (numL (nz d.id) ++ (numL (nz d.tags) ++ (numL (nz (d.vec.n : Int)) ++ (numsZ (d.vec.xs.map zigF) ++ (numL (nz d.level) ++ (numsZ (d.ls.flatMap lsZ) ++ (numL (nz d.next) ++ (numL (nz d.prev) ++ rest)))))))) := by
    unfold ndZ
    simp only [numsZ_app, numsZ_cons, List.append_assoc]
    simp [numsZ]
  rw [e]
  unfold nodR
  rw [take_back (by omega) (by omega) (by omega)]
  dsimp only
  rw [if_neg (by decide)]
  unfold nd1R
  simp only [take_back (lo := 0) (hi := 18446744073709551615) (z := d.id) (by omega) (by omega) (by decide), take_back (lo := 0) (hi := 18446744073709551615) (z := d.tags) (by omega) (by omega) (by decide), h3.1, take_back (lo := 0) (hi := 4096) (z := (d.vec.xs.length : Int)) (by omega) (by omega) (by decide), Int.toNat_natCast, vec_back d.vec.xs [] _ h4, take_back (lo := 0) (hi := 7) (z := d.level) (by omega) (by omega) (by decide)]
  have hl : d.level.toNat + 1 = d.ls.length := by omega
  rw [hl]
  have hls := fun rest' => lss_back hn d.ls 0 [] rest' (fun j l hj => by rw [Nat.zero_add]; exact h7 j l hj)
  simp only [hls, take_back (lo := 0) (hi := nn - 1) (z := d.next) (by omega) (by omega) (by omega), take_back (lo := 0) (hi := nn - 1) (z := d.prev) (by omega) (by omega) (by omega), List.nil_append]
  unfold ndC ND.norm isN IS.norm
  simp only [List.length_map, Int.toNat_of_nonneg h1.1, Int.toNat_of_nonneg h2.1, Int.toNat_of_nonneg h5.1, Int.toNat_of_nonneg h8.1, Int.toNat_of_nonneg h9.1, h6.1, h3.1]
theorem nod_back0 (lk nn : Nat) (rest : List Int) : nodR lk nn ⟨numsZ [0] ++ rest, 0⟩ = (⟨rest, 0⟩, ndX) := by
  unfold nodR
  rw [numsZ_one, take_back (by omega) (by omega) (by omega)]
  rfl
/-- What of a slot is read again. -/
def SlOk (lk : Nat) (ns : List ND) (i : Nat) : Prop := (thN ns i = true → NodOk lk ns.length (nAt ns i)) ∧ (thN ns i = false → (nAt ns i).norm = ndX)
theorem slot_back {lk : Nat} {ns : List ND} (hn : 1 ≤ ns.length ∧ ns.length ≤ 4097) {i : Nat} (hi : 1 ≤ i) (h : SlOk lk ns i) (rest : List Int) : nodR lk ns.length ⟨numsZ (slZ ns i) ++ rest, 0⟩ = (⟨rest, 0⟩, (nAt ns i).norm) := by
  unfold slZ
  cases ht : thN ns i with
  | true => rw [if_pos rfl]; exact nod_back hn (h.1 ht) rest
  | false => rw [if_neg (by decide), if_pos (by omega), h.2 ht]; exact nod_back0 _ _ rest
def tlZ (ns : List ND) (i k : Nat) : List Int := (List.range' i k).flatMap (slZ ns)
theorem nds_back {lk : Nat} {ns : List ND} (hn : 1 ≤ ns.length ∧ ns.length ≤ 4097) (h : ∀ i, 1 ≤ i → i < ns.length → SlOk lk ns i) : ∀ (k i : Nat) (a : List ND) (rest : List Int), 1 ≤ i → i + k = ns.length → ndsR lk ns.length k ⟨numsZ (tlZ ns i k) ++ rest, 0⟩ a = (⟨rest, 0⟩, a ++ (ns.drop i).map ND.norm)
  | 0, i, a, rest, _, hk => by
    rw [List.drop_of_length_le (by omega)]
    simp [ndsR, tlZ, numsZ]
  | k + 1, i, a, rest, hi, hk => by
    have e : tlZ ns i (k + 1) = slZ ns i ++ tlZ ns (i + 1) k := by unfold tlZ; rw [List.range'_succ, List.flatMap_cons]
    rw [ndsR, if_pos rfl, e, numsZ_app, List.append_assoc, slot_back hn hi (h i hi (by omega))]
    dsimp only
    rw [nds_back hn h k (i + 1) _ rest (by omega) (by omega)]
    have hd : ns.drop i = nAt ns i :: ns.drop (i + 1) := by
      rw [List.drop_eq_getElem_cons (show i < ns.length by omega)]
      congr 1
      exact (nAt_of (List.getElem?_eq_getElem (by omega))).symm
    rw [hd, List.map_cons, List.append_assoc]
    rfl
theorem bd_tl (ns : List ND) (k : Nat) : bdZ ns (k + 1) = tlZ ns 1 k := by
  unfold bdZ tlZ
  rw [List.range_eq_range', List.range'_succ, List.flatMap_cons]
  have : slZ ns 0 = [] := by
    unfold slZ
    have ht : thN ns 0 = false := by unfold thN; rfl
    rw [ht]; rfl
  rw [this, List.nil_append]
/-- What of a plane is read again. -/
structure PlOk (ns : List ND) (lk : Nat) (en tp : Int) : Prop where
  len : 1 ≤ ns.length ∧ ns.length ≤ 4097
  lb : 1 ≤ lk ∧ lk ≤ 32
  en : 0 ≤ en ∧ en < ns.length
  tp : 0 ≤ tp ∧ tp ≤ 7
  hd : (nAt ns 0).norm = ndH (nAt ns 0).next (nAt ns 0).prev
  nx : (0 ≤ (nAt ns 0).next ∧ (nAt ns 0).next < ns.length) ∧ (0 ≤ (nAt ns 0).prev ∧ (nAt ns 0).prev < ns.length)
  sl : ∀ i, 1 ≤ i → i < ns.length → SlOk lk ns i
theorem pln_back {ns : List ND} {lk : Nat} {en tp : Int} (h : PlOk ns lk en tp) : plnR ⟨numsZ (imZ ns lk en tp), 0⟩ = ⟨⟨[], 0⟩, ns.map ND.norm, en, tp, lk⟩ := by
  obtain ⟨h1, h2, h3, h4, h5, h6, h7⟩ := h
  obtain ⟨k, hk⟩ : ∃ k, ns.length = k + 1 := ⟨ns.length - 1, by omega⟩
  have e : numsZ (imZ ns lk en tp) = numL (nz (lk : Int)) ++ (numL (nz (ns.length : Int)) ++ (numL (nz en) ++ (numL (nz tp) ++ (numL (nz (nAt ns 0).next) ++ (numL (nz (nAt ns 0).prev) ++ (numsZ (tlZ ns 1 k) ++ [])))))) := by
    unfold imZ hdZ
    rw [hk, bd_tl, numsZ_app]
    simp only [numsZ_cons, List.append_assoc, List.append_nil]
    simp [numsZ]
  have hd : ns.map ND.norm = ndH (nAt ns 0).next (nAt ns 0).prev :: (ns.drop 1).map ND.norm := by
    cases ns with
    | nil => simp at hk
    | cons d ds => rw [← h5]; rfl
  rw [e]
  unfold plnR
  simp only [take_back (lo := 1) (hi := 32) (z := (lk : Int)) (by omega) (by omega) (by decide), take_back (lo := 1) (hi := 4097) (z := (ns.length : Int)) (by omega) (by omega) (by decide), Int.toNat_natCast, if_pos]
  unfold pl1R
  simp only [take_back (lo := 0) (hi := ns.length - 1) (z := en) (by omega) (by omega) (by omega), take_back (lo := 0) (hi := 7) (z := tp) (by omega) (by omega) (by decide), take_back (lo := 0) (hi := ns.length - 1) (z := (nAt ns 0).next) (by omega) (by omega) (by omega), take_back (lo := 0) (hi := ns.length - 1) (z := (nAt ns 0).prev) (by omega) (by omega) (by omega)]
  rw [Int.toNat_of_nonneg h6.1.1, Int.toNat_of_nonneg h6.2.1, show ns.length - 1 = k by omega]
  have := nds_back (lk := lk) h1 h7 k 1 [ndH (nAt ns 0).next (nAt ns 0).prev] [] (by omega) (by omega)
  rw [this, hd]
  simp only [Int.toNat_of_nonneg h3.1, Int.toNat_of_nonneg h4.1]
  rfl
theorem read_back {ns : List ND} {lk : Nat} {en tp : Int} (h : PlOk ns lk en tp) (hc : chkB ns lk en tp = true) : readR (putL ns lk en tp ++ sumB (putL ns lk en tp)) = ⟨ns.map ND.norm, en, tp, lk, 0⟩ := by
  obtain ⟨L, hL⟩ : ∃ L, putL ns lk en tp = L := ⟨_, rfl⟩
  have hl4 : (sumB L).length = 4 := rfl
  have hm : L.take 4 = mkL := by rw [← hL]; unfold putL; rw [List.take_append_of_le_length (by decide)]; rfl
  have h4 : 4 ≤ L.length := by rw [← hL]; unfold putL; rw [List.length_append]; exact Nat.le_add_right 4 _
  have hb : bodyL (L ++ sumB L) = L := by unfold bodyL; rw [List.length_append, hl4, Nat.add_sub_cancel, List.take_left]
  have hs : sealL (L ++ sumB L) = sumB L := by unfold sealL; rw [List.length_append, hl4, Nat.add_sub_cancel, List.drop_left]
  have hd : L.drop 4 = numsZ (imZ ns lk en tp) := by rw [← hL]; unfold putL; rw [show 4 = mkL.length from rfl, List.drop_left]
  rw [hL]
  unfold readR
  rw [hb, hs, if_neg (by rw [List.length_append, hl4]; omega), if_neg (by rw [List.take_append_of_le_length h4]; exact fun q => q hm), if_neg (fun q => q rfl), hd, pln_back h]
  have hw : whyR ⟨⟨[], 0⟩, ns.map ND.norm, en, tp, lk⟩ = 0 := by
    unfold whyR
    dsimp only
    rw [if_pos rfl, if_pos List.length_nil]
    unfold chkW
    rw [chkB_norm, hc]; rfl
  unfold irP
  rw [hw, if_pos rfl]
theorem ofInt32_toNat (n : Int) (h : 0 ≤ n ∧ n < 4294967296) : ((BitVec.ofInt 32 n).toNat : Int) = n := by
  rw [BitVec.toNat_ofInt]; omega
theorem xor_u32 (n b : Int) : bits .xor .u32 n b = ((BitVec.ofInt 32 n ^^^ BitVec.ofInt 32 b).toNat : Int) := by
  show IntKind.u32.wrap ((BitVec.ofInt 32 n ^^^ BitVec.ofInt 32 b).toNat : Int) = _
  have := (BitVec.ofInt 32 n ^^^ BitVec.ofInt 32 b).isLt
  rw [IntKind.wrap_u32]; omega
theorem mul_inv {d t : Int} (h : d * 16777619 = 4294967296 * t) : d = 4294967296 * (t * 899433627 - d * 3513497) := by
  have e : ((16777619 * 899433627 : Int) - 3513497 * 4294967296) = 1 := by decide
  have h1 : d * (16777619 * 899433627) - d * (3513497 * 4294967296) = d := by rw [← Int.mul_sub, e, Int.mul_one]
  have h2 : d * (16777619 * 899433627) = 4294967296 * (t * 899433627) := by rw [← Int.mul_assoc, h, Int.mul_assoc]
  have h3 : d * (3513497 * 4294967296) = 4294967296 * (d * 3513497) := by rw [← Int.mul_assoc, Int.mul_comm]
  rw [Int.mul_sub, ← h2, ← h3, h1]
theorem small_mul {d s : Int} (h : d = 4294967296 * s) (h1 : -4294967296 < d) (h2 : d < 4294967296) : d = 0 := by omega
theorem mul_inj {x y : Nat} (hx : x < 4294967296) (hy : y < 4294967296) (h : (x : Int) * 16777619 % 4294967296 = (y : Int) * 16777619 % 4294967296) : x = y := by
  obtain ⟨t, ht⟩ := Int.dvd_of_emod_eq_zero (Int.emod_eq_emod_iff_emod_sub_eq_zero.1 h)
  have h1 : ((x : Int) - y) * 16777619 = 4294967296 * t := by rw [← ht, Int.sub_mul]
  have h2 := mul_inv h1
  clear h h1 ht
  have h3 := small_mul h2 (by omega) (by omega)
  clear h2
  omega
theorem step_xor {n m b c : Int} (h : sumStep n b = sumStep m c) : BitVec.ofInt 32 n ^^^ BitVec.ofInt 32 b = BitVec.ofInt 32 m ^^^ BitVec.ofInt 32 c := by
  unfold sumStep at h
  rw [xor_u32, xor_u32] at h
  exact BitVec.eq_of_toNat_eq (mul_inj (BitVec.isLt _) (BitVec.isLt _) h)
theorem ofInt_inj {n m : Int} (hn : 0 ≤ n ∧ n < 4294967296) (hm : 0 ≤ m ∧ m < 4294967296) (h : BitVec.ofInt 32 n = BitVec.ofInt 32 m) : n = m := by
  rw [← ofInt32_toNat n hn, ← ofInt32_toNat m hm, h]
theorem xor_cancel_left {a b c : BitVec 32} (h : a ^^^ b = a ^^^ c) : b = c := by
  have := congrArg (a ^^^ ·) h
  simpa [← BitVec.xor_assoc] using this
theorem xor_cancel_right {a b c : BitVec 32} (h : b ^^^ a = c ^^^ a) : b = c := by
  rw [BitVec.xor_comm b a, BitVec.xor_comm c a] at h
  exact xor_cancel_left h
theorem step_bd (n b : Int) : 0 ≤ sumStep n b ∧ sumStep n b < 4294967296 := by unfold sumStep; omega
theorem fold_inj : ∀ (l : List Int) {n m : Int}, (0 ≤ n ∧ n < 4294967296) → (0 ≤ m ∧ m < 4294967296) → l.foldl sumStep n = l.foldl sumStep m → n = m
  | [], n, m, _, _, h => h
  | b :: l, n, m, hn, hm, h => by
    have := fold_inj l (step_bd n b) (step_bd m b) h
    exact ofInt_inj hn hm (xor_cancel_right (step_xor this))
theorem fold_bd (l : List Int) {n : Int} (hn : 0 ≤ n ∧ n < 4294967296) : 0 ≤ l.foldl sumStep n ∧ l.foldl sumStep n < 4294967296 := by
  induction l generalizing n with
  | nil => exact hn
  | cons b l ih => exact ih (step_bd n b)
theorem sum_set {l : List Int} {k : Nat} {x : Int} (hb : Bytes l) (hk : k < l.length) (hx : 0 ≤ x ∧ x < 256) (h : sumL (l.set k x) = sumL l) : x = ig l k := by
  have e1 : l = l.take k ++ ig l k :: l.drop (k + 1) := by
    have := List.take_append_drop k l
    rw [List.drop_eq_getElem_cons hk] at this
    rw [ig, List.getD_eq_getElem?_getD, List.getElem?_eq_getElem hk]
    exact this.symm
  have e2 : l.set k x = l.take k ++ x :: l.drop (k + 1) := by rw [List.set_eq_take_append_cons_drop, if_pos hk]
  unfold sumL at h
  rw [e2] at h
  conv at h => rhs; rw [e1]
  rw [List.foldl_append, List.foldl_append, List.foldl_cons, List.foldl_cons] at h
  have hbd := fold_bd (l.take k) (n := 2166136261) (by decide)
  have h2 := fold_inj _ (step_bd _ _) (step_bd _ _) h
  have hk' : 0 ≤ ig l k ∧ ig l k < 256 := hb.at_ k
  exact ofInt_inj (by omega) (by omega) (xor_cancel_left (step_xor h2))
theorem sumB_inj {l m : List Int} (h : sumB l = sumB m) : sumL l = sumL m := by
  have h1 := sum_bd l
  have h2 := sum_bd m
  unfold sumB at h
  simp only [List.cons.injEq, and_true] at h
  omega
theorem readR_ok {l : List Int} (h : (readR l).e = 0) : 8 ≤ l.length ∧ l.take 4 = mkL ∧ sumB (bodyL l) = sealL l := by
  unfold readR at h
  split at h
  · simp [irE] at h
  · rename_i h8
    split at h
    · simp [irE] at h
    · rename_i hm
      split at h
      · simp [irE] at h
      · rename_i hs
        exact ⟨by omega, Decidable.not_not.1 hm, Decidable.not_not.1 hs⟩
theorem turn_no {l : List Int} {k : Nat} {x : Int} (hb : Bytes l) (h : (readR l).e = 0) (hk : k < l.length) (hx : 0 ≤ x ∧ x < 256) (hne : x ≠ ig l k) : (readR (l.set k x)).e ≠ 0 := by
  intro h2
  obtain ⟨q1, q2, q3⟩ := readR_ok h
  obtain ⟨_, p2, p3⟩ := readR_ok h2
  have hget : ig (l.set k x) k = x := by rw [ig, List.getD_eq_getElem?_getD, List.getElem?_set_self hk]; rfl
  by_cases h4 : k < 4
  · have e := q2.trans p2.symm
    have := congrArg (fun m => m.getD k 0) e
    simp only [List.getD_eq_getElem?_getD, List.getElem?_take, if_pos h4] at this
    rw [List.getElem?_set_self hk] at this
    exact hne (by rw [ig, List.getD_eq_getElem?_getD, this]; rfl)
  · unfold bodyL sealL at q3 p3
    rw [List.length_set] at p3
    by_cases hk2 : k < l.length - 4
    · have e1 : (l.set k x).drop (l.length - 4) = l.drop (l.length - 4) := by rw [List.drop_set_of_lt hk2]
      have e2 : (l.set k x).take (l.length - 4) = (l.take (l.length - 4)).set k x := by rw [List.take_set]
      rw [e1, e2, ← q3] at p3
      have := sum_set (hb.take _) (by rw [List.length_take]; omega) hx (sumB_inj p3)
      rw [ig, List.getD_eq_getElem?_getD, List.getElem?_take, if_pos hk2, ← List.getD_eq_getElem?_getD] at this
      exact hne this
    · have e2 : (l.set k x).take (l.length - 4) = l.take (l.length - 4) := by
        rw [List.take_set, List.set_eq_of_length_le (by rw [List.length_take]; omega)]
      rw [e2, q3] at p3
      have := congrArg (fun m => m.getD (k - (l.length - 4)) 0) p3
      simp only [List.getD_eq_getElem?_getD, List.getElem?_drop] at this
      rw [show l.length - 4 + (k - (l.length - 4)) = k by omega, List.getElem?_set_self hk] at this
      exact hne (by rw [ig, List.getD_eq_getElem?_getD, this]; rfl)
theorem take_canon {s s' : RS} {lo hi v : Nat} (he : takeR s lo hi = (s', v)) (h0 : s'.e = 0) (hb : Bytes s.l) : s.e = 0 ∧ s.l = numL v ++ s'.l ∧ Bytes s'.l ∧ lo ≤ v ∧ v ≤ hi ∧ v < 18446744073709551616 := by
  unfold takeR at he
  split at he
  · rename_i hs
    rcases hno : numOf s.l with ⟨n, sz, wy⟩
    rw [hno] at he
    dsimp only at he
    split at he
    · rename_i hw
      subst hw
      split at he
      · injection he with h1 _
        rw [← h1] at h0
        simp at h0
      · rename_i hr
        injection he with h1 h2
        subst h1 h2
        obtain ⟨q1, q2, q3, q4⟩ := numOf_canon hb hno
        exact ⟨hs, by show s.l = numL n ++ s.l.drop sz; rw [← q2, List.take_append_drop], hb.drop sz, by omega, by omega, q1⟩
    · rename_i hw
      injection he with h1 _
      rw [← h1] at h0
      simp at h0
      omega
  · rename_i hs
    injection he with h1 _
    rw [← h1] at h0
    exact absurd h0 hs
theorem bytes_take {s s' : RS} {lo hi v : Nat} (h : takeR s lo hi = (s', v)) (hb : Bytes s.l) : Bytes s'.l := by
  obtain ⟨j, hj⟩ := takeR_sub s lo hi
  rw [h] at hj
  rw [hj]; exact hb.drop j
theorem bytes_vec : ∀ (k : Nat) {s s' : RS} {a out : List Int}, vecR k s a = (s', out) → Bytes s.l → Bytes s'.l
  | 0, s, s', a, out, h, hb => by injection h with h1 _; rw [← h1]; exact hb
  | k + 1, s, s', a, out, h, hb => by
    rw [vecR] at h
    split at h
    · exact bytes_vec k h (bytes_take (s' := (takeR s 0 4294967295).1) (v := (takeR s 0 4294967295).2) rfl hb)
    · injection h with h1 _; rw [← h1]; exact hb
theorem bytes_lis (nn : Nat) : ∀ (k : Nat) {s s' : RS} {a out : List Int}, lisR nn k s a = (s', out) → Bytes s.l → Bytes s'.l
  | 0, s, s', a, out, h, hb => by injection h with h1 _; rw [← h1]; exact hb
  | k + 1, s, s', a, out, h, hb => by
    rw [lisR] at h
    split at h
    · exact bytes_lis nn k h (bytes_take (s' := (takeR s 0 (nn - 1)).1) (v := (takeR s 0 (nn - 1)).2) rfl hb)
    · injection h with h1 _; rw [← h1]; exact hb
theorem bytes_lv {lk nn lv : Nat} {s s' : RS} {xs : List Int} (h : lv1R lk nn lv s = (s', xs)) (hb : Bytes s.l) : Bytes s'.l := by
  unfold lv1R at h
  exact bytes_lis nn _ h (bytes_take (s' := (takeR s 0 (mostE lk lv).toNat).1) (v := (takeR s 0 (mostE lk lv).toNat).2) rfl hb)
theorem bytes_lss (lk nn : Nat) : ∀ (k lv : Nat) {s s' : RS} {a out : List IS}, lssR lk nn k lv s a = (s', out) → Bytes s.l → Bytes s'.l
  | 0, lv, s, s', a, out, h, hb => by injection h with h1 _; rw [← h1]; exact hb
  | k + 1, lv, s, s', a, out, h, hb => by
    rw [lssR] at h
    split at h
    · exact bytes_lss lk nn k (lv + 1) h (bytes_lv (xs := (lv1R lk nn lv s).2) rfl hb)
    · injection h with h1 _; rw [← h1]; exact hb
theorem bytes_nod {lk nn : Nat} {s s' : RS} {d : ND} (h : nodR lk nn s = (s', d)) (hb : Bytes s.l) : Bytes s'.l := by
  unfold nodR at h
  have b1 : Bytes (takeR s 0 1).1.l := bytes_take (v := (takeR s 0 1).2) rfl hb
  split at h
  · injection h with h1 _; rw [← h1]; exact b1
  · unfold nd1R at h
    injection h with h1 _
    rw [← h1]
    exact bytes_take rfl (bytes_take rfl (bytes_lss lk nn _ _ rfl (bytes_take rfl (bytes_vec _ rfl (bytes_take rfl (bytes_take rfl (bytes_take rfl b1)))))))
theorem vec_canon : ∀ (k : Nat) (s s' : RS) (a out : List Int), vecR k s a = (s', out) → s'.e = 0 → Bytes s.l → s.e = 0 ∧ Bytes s'.l ∧ ∃ zs, out = a ++ zs ∧ zs.length = k ∧ s.l = numsZ (zs.map zigF) ++ s'.l ∧ ∀ z ∈ zs, -2147483648 ≤ z ∧ z ≤ 2147483647
  | 0, s, s', a, out, h, h0, hb => by
    injection h with h1 h2
    subst h1 h2
    exact ⟨h0, hb, [], by simp, rfl, by simp [numsZ], fun z hz => by cases hz⟩
  | k + 1, s, s', a, out, h, h0, hb => by
    rw [vecR] at h
    split at h
    · rename_i hs
      obtain ⟨s1, v, e1⟩ : ∃ x y, takeR s 0 4294967295 = (x, y) := ⟨_, _, rfl⟩
      rw [e1] at h
      dsimp only at h
      have hb1 : Bytes s1.l := by
        obtain ⟨j, hj⟩ := takeR_sub s 0 4294967295
        rw [e1] at hj
        rw [hj]; exact hb.drop j
      obtain ⟨p1, p2, zs, p3, p4, p5, p6⟩ := vec_canon k s1 s' _ out h h0 hb1
      obtain ⟨q1, q2, q3, q4, q5, q6⟩ := take_canon e1 p1 hb
      have hz := zigzag v q6
      have hz2 := zagF_bd q5
      refine ⟨hs, p2, zagF v :: zs, by rw [p3, List.append_assoc]; rfl, by rw [List.length_cons, p4], ?_, ?_⟩
      · rw [List.map_cons, numsZ_cons, hz.1, nz_nat q6, List.append_assoc, ← p5, q2]
      · intro z hm
        rcases List.mem_cons.1 hm with e | e
        · rw [e]; exact hz2
        · exact p6 z e
    · rename_i hs
      injection h with h1 _
      rw [h1] at hs
      exact absurd h0 hs
theorem lis_canon (nn : Nat) (hn : 1 ≤ nn) : ∀ (k : Nat) (s s' : RS) (a out : List Int), lisR nn k s a = (s', out) → s'.e = 0 → Bytes s.l → s.e = 0 ∧ Bytes s'.l ∧ ∃ xs, out = a ++ xs ∧ xs.length = k ∧ s.l = numsZ xs ++ s'.l ∧ ∀ x ∈ xs, 0 ≤ x ∧ x < nn
  | 0, s, s', a, out, h, h0, hb => by
    injection h with h1 h2
    subst h1 h2
    exact ⟨h0, hb, [], by simp, rfl, by simp [numsZ], fun z hz => by cases hz⟩
  | k + 1, s, s', a, out, h, h0, hb => by
    rw [lisR] at h
    split at h
    · rename_i hs
      obtain ⟨s1, v, e1⟩ : ∃ x y, takeR s 0 (nn - 1) = (x, y) := ⟨_, _, rfl⟩
      rw [e1] at h
      dsimp only at h
      have hb1 : Bytes s1.l := by
        obtain ⟨j, hj⟩ := takeR_sub s 0 (nn - 1)
        rw [e1] at hj
        rw [hj]; exact hb.drop j
      obtain ⟨p1, p2, xs, p3, p4, p5, p6⟩ := lis_canon nn hn k s1 s' _ out h h0 hb1
      obtain ⟨q1, q2, q3, q4, q5, q6⟩ := take_canon e1 p1 hb
      refine ⟨hs, p2, (v : Int) :: xs, by rw [p3, List.append_assoc]; rfl, by rw [List.length_cons, p4], ?_, ?_⟩
      · rw [numsZ_cons, nz_nat q6, List.append_assoc, ← p5, q2]
      · intro z hm
        rcases List.mem_cons.1 hm with e | e
        · rw [e]; omega
        · exact p6 z e
    · rename_i hs
      injection h with h1 _
      rw [h1] at hs
      exact absurd h0 hs
theorem lv_canon {lk nn lv : Nat} (hn : 1 ≤ nn) {s s' : RS} {xs : List Int} (h : lv1R lk nn lv s = (s', xs)) (h0 : s'.e = 0) (hb : Bytes s.l) : s.e = 0 ∧ Bytes s'.l ∧ s.l = numsZ (lsZ (isN xs)) ++ s'.l ∧ LisOk lk nn lv (isN xs) := by
  unfold lv1R at h
  obtain ⟨s1, v, e1⟩ : ∃ x y, takeR s 0 (mostE lk lv).toNat = (x, y) := ⟨_, _, rfl⟩
  rw [e1] at h
  dsimp only at h
  have hb1 : Bytes s1.l := by
    obtain ⟨j, hj⟩ := takeR_sub s 0 (mostE lk lv).toNat
    rw [e1] at hj
    rw [hj]; exact hb.drop j
  obtain ⟨p1, p2, ys, p3, p4, p5, p6⟩ := lis_canon nn hn v s1 s' [] xs h h0 hb1
  obtain ⟨q1, q2, q3, q4, q5, q6⟩ := take_canon e1 p1 hb
  rw [List.nil_append] at p3
  subst p3
  have hm := mostE_bd lk lv
  refine ⟨q1, p2, ?_, rfl, ?_, p6⟩
  · show s.l = numsZ (((xs.length : Nat) : Int) :: xs) ++ s'.l
    rw [numsZ_cons, p4, nz_nat q6, List.append_assoc, ← p5, q2]
  · show (xs.length : Int) ≤ _
    rw [p4]; omega
theorem lss_canon {lk nn : Nat} (hn : 1 ≤ nn) : ∀ (k lv : Nat) (s s' : RS) (a out : List IS), lssR lk nn k lv s a = (s', out) → s'.e = 0 → Bytes s.l → s.e = 0 ∧ Bytes s'.l ∧ ∃ ls, out = a ++ ls ∧ ls.length = k ∧ s.l = numsZ (ls.flatMap lsZ) ++ s'.l ∧ (∀ j l, ls[j]? = some l → LisOk lk nn (lv + j) l) ∧ ls.map IS.norm = ls
  | 0, lv, s, s', a, out, h, h0, hb => by
    injection h with h1 h2
    subst h1 h2
    exact ⟨h0, hb, [], by simp, rfl, by simp [numsZ], (fun j l hj => by cases hj), rfl⟩
  | k + 1, lv, s, s', a, out, h, h0, hb => by
    rw [lssR] at h
    split at h
    · rename_i hs
      obtain ⟨s1, xs, e1⟩ : ∃ x y, lv1R lk nn lv s = (x, y) := ⟨_, _, rfl⟩
      rw [e1] at h
      dsimp only at h
      have hb1 : Bytes s1.l := bytes_lv e1 hb
      obtain ⟨p1, p2, ls, p3, p4, p5, p6, p7⟩ := lss_canon hn k (lv + 1) s1 s' _ out h h0 hb1
      obtain ⟨q1, q2, q3, q4⟩ := lv_canon hn e1 p1 hb
      refine ⟨hs, p2, isN xs :: ls, by rw [p3, List.append_assoc]; rfl, by rw [List.length_cons, p4], ?_, ?_, ?_⟩
      · rw [List.flatMap_cons, numsZ_app, List.append_assoc, ← p5, q3]
      · intro j l hj
        cases j with
        | zero => injection hj with hj; rw [← hj]; simpa using q4
        | succ j =>
          have := p6 j l hj
          rw [show lv + (j + 1) = lv + 1 + j by omega]; exact this
      · rw [List.map_cons, p7]; rfl
    · rename_i hs
      injection h with h1 _
      rw [h1] at hs
      exact absurd h0 hs
theorem nod_canon {lk nn : Nat} (hn : 1 ≤ nn) {s s' : RS} {d : ND} (h : nodR lk nn s = (s', d)) (h0 : s'.e = 0) (hb : Bytes s.l) :
    s.e = 0 ∧ Bytes s'.l ∧ d.norm = d ∧ ((d = ndX ∧ s.l = numsZ [0] ++ s'.l) ∨ (NodOk lk nn d ∧ s.l = numsZ (ndZ d) ++ s'.l)) := by
  unfold nodR at h
  obtain ⟨s1, c, e1⟩ : ∃ x y, takeR s 0 1 = (x, y) := ⟨_, _, rfl⟩
  rw [e1] at h
  dsimp only at h
  have b1 := bytes_take e1 hb
  split at h
  · rename_i hc
    subst hc
    injection h with h1 h2
    subst h1 h2
    obtain ⟨q1, q2, q3, _⟩ := take_canon e1 h0 hb
    exact ⟨q1, q3, rfl, .inl ⟨rfl, by rw [numsZ_one]; exact q2⟩⟩
  · rename_i hc
    unfold nd1R at h
    obtain ⟨s2, id, e2⟩ : ∃ a b, takeR s1 0 18446744073709551615 = (a, b) := ⟨_, _, rfl⟩
    obtain ⟨s3, tg, e3⟩ : ∃ a b, takeR s2 0 18446744073709551615 = (a, b) := ⟨_, _, rfl⟩
    obtain ⟨s4, dm, e4⟩ : ∃ a b, takeR s3 0 4096 = (a, b) := ⟨_, _, rfl⟩
    obtain ⟨s5, vx, e5⟩ : ∃ a b, vecR dm s4 [] = (a, b) := ⟨_, _, rfl⟩
    obtain ⟨s6, hl, e6⟩ : ∃ a b, takeR s5 0 7 = (a, b) := ⟨_, _, rfl⟩
    obtain ⟨s7, lx, e7⟩ : ∃ a b, lssR lk nn (hl + 1) 0 s6 [] = (a, b) := ⟨_, _, rfl⟩
    obtain ⟨s8, nx, e8⟩ : ∃ a b, takeR s7 0 (nn - 1) = (a, b) := ⟨_, _, rfl⟩
    obtain ⟨s9, pv, e9⟩ : ∃ a b, takeR s8 0 (nn - 1) = (a, b) := ⟨_, _, rfl⟩
    simp only [e2, e3, e4, e5, e6, e7, e8, e9] at h
    injection h with h1 h2
    subst h1
    have b2 := bytes_take e2 b1
    have b3 := bytes_take e3 b2
    have b4 := bytes_take e4 b3
    have b5 := bytes_vec dm e5 b4
    have b6 := bytes_take e6 b5
    have b7 := bytes_lss lk nn _ _ e7 b6
    have b8 := bytes_take e8 b7
    obtain ⟨z8, l8, b9, _, n9, w9⟩ := take_canon e9 h0 b8
    obtain ⟨z7, l7, _, _, n8, w8⟩ := take_canon e8 z8 b7
    obtain ⟨z6, _, ls, p1, p2, p3, p4, p5⟩ := lss_canon hn (hl + 1) 0 s6 s7 [] lx e7 z7 b6
    obtain ⟨z5, l5, _, _, n6, w6⟩ := take_canon e6 z6 b5
    obtain ⟨z4, _, zs, r1, r2, r3, r4⟩ := vec_canon dm s4 s5 [] vx e5 z5 b4
    obtain ⟨z3, l3, _, _, n4, w4⟩ := take_canon e4 z4 b3
    obtain ⟨z2, l2, _, _, n3, w3⟩ := take_canon e3 z3 b2
    obtain ⟨z1, l1, _, _, n2, w2⟩ := take_canon e2 z2 b1
    obtain ⟨z0, l0, _, _, n1, w1⟩ := take_canon e1 z1 hb
    rw [List.nil_append] at p1 r1
    subst p1 r1
    obtain rfl : c = 1 := by omega
    subst h2
    refine ⟨z0, b9, ?_, .inr ⟨⟨by constructor <;> (show _ ≤ _) <;> simp [ndC] <;> omega, by constructor <;> simp [ndC] <;> omega, ⟨rfl, by show vx.length ≤ 4096; omega⟩, r4, by constructor <;> simp [ndC] <;> omega, ⟨rfl, by show ((lx.length : Nat) : Int) = (hl : Int) + 1; omega⟩, fun j l hj => by have := p4 j l hj; rwa [Nat.zero_add] at this, by constructor <;> simp [ndC] <;> omega, by constructor <;> simp [ndC] <;> omega⟩, ?_⟩⟩
    · unfold ndC ND.norm
      simp only [p5]
      rfl
    · have e : numsZ (ndZ (ndC id tg vx hl lx nx pv)) ++ s9.l = numL (nz 1) ++ (numL (nz (id : Int)) ++ (numL (nz (tg : Int)) ++ (numL (nz (vx.length : Int)) ++ (numsZ (vx.map zigF) ++ (numL (nz (hl : Int)) ++ (numsZ (lx.flatMap lsZ) ++ (numL (nz (nx : Int)) ++ (numL (nz (pv : Int)) ++ s9.l)))))))) := by
        unfold ndZ ndC isN
        simp only [numsZ_app, numsZ_cons, List.append_assoc]
        simp [numsZ]
      rw [e, nz_nat w2, nz_nat w3, nz_nat w6, nz_nat w8, nz_nat w9, r2, nz_nat w4, ← l8, ← l7, ← p3, ← l5, ← r3, ← l3, ← l2, ← l1]
      exact l0
/-- A slot's numbers, by the node alone. -/
def dZ (d : ND) : List Int := if d.next < 0 then [0] else ndZ d
theorem dZ_x : dZ ndX = [0] := rfl
theorem dZ_ok {lk nn : Nat} {d : ND} (h : NodOk lk nn d) : dZ d = ndZ d := by
  unfold dZ
  obtain ⟨_, _, _, _, _, _, _, h8, _⟩ := h
  rw [if_neg (by omega)]
theorem nds_canon {lk nn : Nat} (hn : 1 ≤ nn) : ∀ (k : Nat) (s s' : RS) (a out : List ND), ndsR lk nn k s a = (s', out) → s'.e = 0 → Bytes s.l → s.e = 0 ∧ Bytes s'.l ∧ ∃ ds, out = a ++ ds ∧ ds.length = k ∧ s.l = numsZ (ds.flatMap dZ) ++ s'.l ∧ ds.map ND.norm = ds ∧ ∀ d ∈ ds, d = ndX ∨ NodOk lk nn d
  | 0, s, s', a, out, h, h0, hb => by
    injection h with h1 h2
    subst h1 h2
    exact ⟨h0, hb, [], by simp, rfl, by simp [numsZ], rfl, fun d hd => by cases hd⟩
  | k + 1, s, s', a, out, h, h0, hb => by
    rw [ndsR] at h
    split at h
    · rename_i hs
      obtain ⟨s1, d, e1⟩ : ∃ x y, nodR lk nn s = (x, y) := ⟨_, _, rfl⟩
      rw [e1] at h
      dsimp only at h
      have hb1 := bytes_nod e1 hb
      obtain ⟨p1, p2, ds, p3, p4, p5, p6, p7⟩ := nds_canon hn k s1 s' _ out h h0 hb1
      obtain ⟨q1, q2, q3, q4⟩ := nod_canon hn e1 p1 hb
      refine ⟨hs, p2, d :: ds, by rw [p3, List.append_assoc]; rfl, by rw [List.length_cons, p4], ?_, by rw [List.map_cons, q3, p6], ?_⟩
      · rw [List.flatMap_cons, numsZ_app, List.append_assoc, ← p5]
        rcases q4 with ⟨e, q⟩ | ⟨e, q⟩
        · rw [e, dZ_x]; exact q
        · rw [dZ_ok e]; exact q
      · intro x hx
        rcases List.mem_cons.1 hx with e | e
        · rw [e]; exact q4.imp (fun q => q.1) (fun q => q.1)
        · exact p7 x e
    · rename_i hs
      injection h with h1 _
      rw [h1] at hs
      exact absurd h0 hs
theorem sl_dZ {ns : List ND} {i : Nat} (h1 : 1 ≤ i) (h2 : i < ns.length) : slZ ns i = dZ (nAt ns i) := by
  unfold slZ dZ
  have ht : thN ns i = decide (0 ≤ (nAt ns i).next) := by unfold thN; rw [decide_eq_true h1, decide_eq_true h2]; rfl
  rw [ht]
  by_cases h : 0 ≤ (nAt ns i).next
  · rw [decide_eq_true h, if_pos rfl, if_neg (by omega)]
  · rw [decide_eq_false h, if_neg (by decide), if_pos (by omega), if_pos (by omega)]
theorem tl_dZ (ns : List ND) : ∀ (k i : Nat), 1 ≤ i → i + k = ns.length → tlZ ns i k = (ns.drop i).flatMap dZ
  | 0, i, _, hk => by rw [List.drop_of_length_le (by omega)]; rfl
  | k + 1, i, hi, hk => by
    have e : tlZ ns i (k + 1) = slZ ns i ++ tlZ ns (i + 1) k := by unfold tlZ; rw [List.range'_succ, List.flatMap_cons]
    have hd : ns.drop i = nAt ns i :: ns.drop (i + 1) := by
      rw [List.drop_eq_getElem_cons (show i < ns.length by omega)]
      congr 1
      exact (nAt_of (List.getElem?_eq_getElem (by omega))).symm
    rw [e, hd, List.flatMap_cons, sl_dZ hi (by omega), tl_dZ ns k (i + 1) (by omega) (by omega)]
theorem pln_canon {s : RS} {p : PR} (h : plnR s = p) (h0 : p.s.e = 0) (hb : Bytes s.l) : s.l = numsZ (imZ p.ns p.lk p.en p.tp) ++ p.s.l ∧ p.ns.map ND.norm = p.ns ∧ (1 ≤ p.lk ∧ p.lk ≤ 32) ∧ tolB p.ns = true := by
  unfold plnR at h
  obtain ⟨s1, lk, e1⟩ : ∃ a b, takeR s 1 32 = (a, b) := ⟨_, _, rfl⟩
  obtain ⟨s2, nn, e2⟩ : ∃ a b, takeR s1 1 4097 = (a, b) := ⟨_, _, rfl⟩
  simp only [e1, e2] at h
  have b1 := bytes_take e1 hb
  have b2 := bytes_take e2 b1
  split at h
  · rename_i hz2
    obtain ⟨z1, l1, _, o1, n2, w2⟩ := take_canon e2 hz2 b1
    obtain ⟨z0, l0, _, o0, n1, w1⟩ := take_canon e1 z1 hb
    unfold pl1R at h
    obtain ⟨s3, en, e3⟩ : ∃ a b, takeR s2 0 (nn - 1) = (a, b) := ⟨_, _, rfl⟩
    obtain ⟨s4, tp, e4⟩ : ∃ a b, takeR s3 0 7 = (a, b) := ⟨_, _, rfl⟩
    obtain ⟨s5, nx, e5⟩ : ∃ a b, takeR s4 0 (nn - 1) = (a, b) := ⟨_, _, rfl⟩
    obtain ⟨s6, pv, e6⟩ : ∃ a b, takeR s5 0 (nn - 1) = (a, b) := ⟨_, _, rfl⟩
    obtain ⟨s7, nsx, e7⟩ : ∃ a b, ndsR lk nn (nn - 1) s6 [ndH nx pv] = (a, b) := ⟨_, _, rfl⟩
    simp only [e3, e4, e5, e6, e7] at h
    subst h
    dsimp only at h0 ⊢
    have b3 := bytes_take e3 b2
    have b4 := bytes_take e4 b3
    have b5 := bytes_take e5 b4
    have b6 := bytes_take e6 b5
    obtain ⟨z6, _, ds, p1, p2, p3, p4, p5⟩ := nds_canon o1 (nn - 1) s6 s7 _ nsx e7 h0 b6
    obtain ⟨z5, l5, _, _, n6, w6⟩ := take_canon e6 z6 b5
    obtain ⟨z4, l4, _, _, n5, w5⟩ := take_canon e5 z5 b4
    obtain ⟨z3, l3, _, _, n4, w4⟩ := take_canon e4 z4 b3
    obtain ⟨_, l2, _, _, n3, w3⟩ := take_canon e3 z3 b2
    have p1' : nsx = ndH nx pv :: ds := p1
    subst p1'
    have hlen : (ndH nx pv :: ds).length = (nn - 1) + 1 := by rw [List.length_cons, p2]
    refine ⟨?_, by rw [List.map_cons, p4]; rfl, ⟨o0, n1⟩, ?_⟩
    · have e : numsZ (imZ (ndH nx pv :: ds) lk en tp) ++ s7.l = numL (nz (lk : Int)) ++ (numL (nz (nn : Int)) ++ (numL (nz (en : Int)) ++ (numL (nz (tp : Int)) ++ (numL (nz (nx : Int)) ++ (numL (nz (pv : Int)) ++ (numsZ (ds.flatMap dZ) ++ s7.l)))))) := by
        unfold imZ hdZ
        rw [hlen, bd_tl, tl_dZ _ (nn - 1) 1 (Nat.le_refl _) (by rw [hlen]; omega), numsZ_app]
        have h1 : nAt (ndH nx pv :: ds) 0 = ndH nx pv := rfl
        rw [h1]
        simp only [numsZ_cons, List.append_assoc]
        rw [show (((nn - 1 + 1 : Nat)) : Int) = (nn : Int) by omega]
        simp [numsZ, ndH]
      rw [e, nz_nat w1, nz_nat w2, nz_nat w3, nz_nat w4, nz_nat w5, nz_nat w6, ← p3, ← l5, ← l4, ← l3, ← l2, ← l1]
      exact l0
    · refine tol_yes fun i hi => ?_
      cases i with
      | zero =>
        have ht : thN (ndH nx pv :: ds) 0 = false := by unfold thN; rfl
        rw [ht]; rfl
      | succ i =>
        have hi' : i < ds.length := by simpa using hi
        have hd : nAt (ndH nx pv :: ds) (i + 1) = ds[i] := nAt_of (by rw [List.getElem?_cons_succ, List.getElem?_eq_getElem hi'])
        have ht : thN (ndH nx pv :: ds) (i + 1) = decide (0 ≤ (nAt (ndH nx pv :: ds) (i + 1)).next) := by unfold thN; rw [decide_eq_true (show 1 ≤ i + 1 by omega), decide_eq_true hi]; rfl
        rw [ht, hd]
        rcases p5 ds[i] (List.getElem_mem _) with e | e
        · rw [e]; rfl
        · obtain ⟨_, _, q3, _, _, _, _, q8, _⟩ := e
          rw [decide_eq_true q8.1]
          exact decide_eq_true q3.2
  · rename_i hz2
    rw [← h] at h0
    exact absurd h0 hz2
theorem read_bad {l : List Int} (h : (readR l).e ≠ 0) : (readR l).lk = 0 ∧ (readR l).ns = [] := by
  unfold readR at h ⊢
  split
  · exact ⟨rfl, rfl⟩
  · rename_i h8
    rw [if_neg h8] at h
    split
    · exact ⟨rfl, rfl⟩
    · rename_i hm
      rw [if_neg hm] at h
      split
      · exact ⟨rfl, rfl⟩
      · rename_i hs
        rw [if_neg hs] at h
        unfold irP at h ⊢
        split
        · rename_i hw
          rw [if_pos hw] at h
          exact absurd rfl h
        · exact ⟨rfl, rfl⟩
theorem print_back {l : List Int} (hb : Bytes l) (h : (readR l).e = 0) : ∃ ns en tp, ∃ lk : Nat, readR l = ⟨ns, en, tp, lk, 0⟩ ∧ putE ns lk en tp = 0 ∧ putS ns lk en tp = l ∧ ns.map ND.norm = ns := by
  obtain ⟨q1, q2, q3⟩ := readR_ok h
  have e : readR l = irP (plnR ⟨(bodyL l).drop 4, 0⟩) := by
    unfold readR
    rw [if_neg (by omega), if_neg (fun q => q q2), if_neg (fun q => q q3)]
  obtain ⟨p, hp⟩ : ∃ p, plnR ⟨(bodyL l).drop 4, 0⟩ = p := ⟨_, rfl⟩
  rw [e, hp] at h
  have hw : whyR p = 0 := by
    unfold irP at h
    split at h
    · rename_i hw; exact hw
    · exact h
  have hpe : p.s.e = 0 ∧ p.s.l.length = 0 ∧ chkW p.ns p.lk p.en p.tp = 0 := by
    unfold whyR at hw
    split at hw
    · rename_i h1
      split at hw
      · rename_i h2; exact ⟨h1, h2, hw⟩
      · simp at hw
    · rename_i h1; exact absurd hw h1
  obtain ⟨h1, h2, h3⟩ := hpe
  obtain ⟨c1, c2, c3, c4⟩ := pln_canon hp h1 ((hb.take _).drop 4)
  have hck : chkB p.ns p.lk p.en p.tp = true := by
    unfold chkW at h3
    split at h3
    · rename_i hc; exact hc
    · simp at h3
  have hnil : p.s.l = [] := List.eq_nil_of_length_eq_zero h2
  rw [hnil, List.append_nil] at c1
  have hbody : bodyL l = putL p.ns p.lk p.en p.tp := by
    unfold putL
    have c1' : (bodyL l).drop 4 = numsZ (imZ p.ns p.lk p.en p.tp) := c1
    rw [← c1', ← q2]
    have : l.take 4 = (bodyL l).take 4 := by unfold bodyL; rw [List.take_take, Nat.min_eq_left (by omega)]
    rw [this, List.take_append_drop]
  have hput : putE p.ns p.lk p.en p.tp = 0 := by
    unfold putE
    rw [if_neg (by omega), hck, c4]; rfl
  refine ⟨p.ns, p.en, p.tp, p.lk, ?_, hput, ?_, c2⟩
  · rw [e, hp]; unfold irP; rw [hw, if_pos rfl]
  · unfold putS
    rw [hput, if_pos rfl, ← hbody, q3]
    unfold bodyL sealL
    exact List.take_append_drop _ _
theorem wf_r32 {z : Int} (h : (Lit.int .i32 z).wf = true) : -2147483648 ≤ z ∧ z ≤ 2147483647 := by
  unfold Lit.wf at h
  rw [Bool.and_eq_true] at h
  exact ⟨of_decide_eq_true h.1, of_decide_eq_true h.2⟩
theorem wf_r64 {z : Int} (h : (Lit.int .u64 z).wf = true) : 0 ≤ z ∧ z ≤ 18446744073709551615 := by
  unfold Lit.wf at h
  rw [Bool.and_eq_true]at h
  exact ⟨of_decide_eq_true h.1, of_decide_eq_true h.2⟩
theorem place_rng {ns : List ND} {s : Int} (h1 : 1 ≤ ns.length) (h : placeB ns s = true) : 0 ≤ s ∧ s < ns.length := by
  unfold placeB at h
  rw [Bool.or_eq_true] at h
  rcases h with h | h
  · have : s = 0 := by simpa using h
    omega
  · obtain ⟨i, rfl, hi⟩ := thB_nat_iff.1 h
    have := (thN_iff.1 hi).2.1
    omega
theorem zero_norm {d : ND} {w : World} {B : Nat} (hd : d.At w B) (h : toldB d false = true) : d.norm = ⟨0, isN [], 0, 0, none, 0, 0, [], d.next, d.prev⟩ := by
  unfold toldB at h
  simp only [Bool.false_eq_true, if_false, Bool.and_eq_true, beq_iff_eq] at h
  obtain ⟨⟨⟨⟨h1, h2⟩, h3⟩, h4⟩, h5⟩ := h
  have hx : d.vec.xs = [] := by
    have := hd.1.len
    exact List.eq_nil_of_length_eq_zero (by omega)
  have hl : d.ls = [] := by
    have := hd.len
    exact List.eq_nil_of_length_eq_zero (by omega)
  unfold ND.norm IS.norm isN
  rw [h1, h2, h3, h4, h5, hx, hl]
  rfl
theorem plok_of {w : World} {B n c : Nat} {A : Option Addr} {ns : List ND} {en tp links : Int} (hg : PgAt w B A n c ns) (ht : ∀ d ∈ ns, (Lit.int .u64 d.tags).wf = true) (he : putE ns links en tp = 0) : ∃ lk : Nat, links = lk ∧ PlOk ns lk en tp ∧ chkB ns lk en tp = true := by
  have h0 : ¬ (links < 1 ∨ 32 < links) := by
    intro h
    rw [(put_far h).1] at he
    simp at he
  have hct : (chkB ns links en tp && tolB ns) = true := by
    cases hc : (chkB ns links en tp && tolB ns) with
    | true => rfl
    | false =>
      rw [(put_bad h0 hc).1] at he
      simp at he
  rw [Bool.and_eq_true] at hct
  obtain ⟨hc, hto⟩ := hct
  obtain ⟨lk, rfl⟩ := Int.eq_ofNat_of_zero_le (show 0 ≤ links by omega)
  obtain ⟨hl1, hl2⟩ := chk_len hc
  have hnode : ∀ i, thN ns i = true → nodeB ns i lk = true := fun i hi => chk_node hc hi
  have htol : ∀ i, i < ns.length → toldB (nAt ns i) (thN ns i) = true := fun i hi => by
    unfold tolB at hto
    rw [List.all_eq_true] at hto
    exact hto i (List.mem_range.2 hi)
  have hring : ∀ i, i < ns.length → rOk ns i = true := fun i hi => by
    unfold chkB at hc
    simp only [Bool.and_eq_true] at hc
    have hr := hc.1.1.2
    unfold ringB at hr
    rw [Bool.and_eq_true, List.all_eq_true] at hr
    exact hr.1 i (List.mem_range.2 hi)
  have hat : ∀ i, i < ns.length → (nAt ns i).At w B ∧ (Lit.int .u64 (nAt ns i).tags).wf = true := fun i hi => by
    have hm : nAt ns i ∈ ns := by rw [nAt_of (List.getElem?_eq_getElem hi)]; exact List.getElem_mem _
    exact ⟨hg.2.2.2 _ hm, ht _ hm⟩
  have hth0 : thN ns 0 = false := by unfold thN; rfl
  have hlev : ∀ i, thN ns i = true → (0 ≤ (nAt ns i).level ∧ (nAt ns i).level ≤ 7) ∧ ((nAt ns i).ln : Int) = (nAt ns i).level + 1 := fun i hi => by
    have h := hnode i hi
    unfold nodeB shapeB at h
    simp only [Bool.and_eq_true, Bool.not_eq_true', decide_eq_false_iff_not, bne_eq_false_iff_eq] at h
    exact ⟨by omega, h.1.1.2⟩
  have hr0 := hring 0 (by omega)
  unfold rOk at hr0
  rw [if_neg (by simp)] at hr0
  simp only [Bool.and_eq_true] at hr0
  refine ⟨lk, rfl, ⟨⟨hl1, hl2⟩, by omega, ?_, ?_, ?_, ⟨place_rng hl1 hr0.1.1, place_rng hl1 hr0.1.2⟩, fun i h1 h2 => ⟨fun hi => ?_, fun hi => ?_⟩⟩, hc⟩
  · unfold chkB at hc
    simp only [Bool.and_eq_true] at hc
    have h := hc.2
    unfold entB at h
    simp only [Bool.or_eq_true, Bool.and_eq_true, beq_iff_eq] at h
    rcases h with h | h
    · omega
    · obtain ⟨i, e, hi⟩ := thB_nat_iff.1 h.1.1
      have := (thN_iff.1 hi).2.1
      omega
  · unfold chkB at hc
    simp only [Bool.and_eq_true] at hc
    have h := hc.2
    unfold entB at h
    simp only [Bool.or_eq_true, Bool.and_eq_true, beq_iff_eq, decide_eq_true_eq] at h
    rcases h with h | h
    · omega
    · obtain ⟨i, e, hi⟩ := thB_nat_iff.1 h.1.1
      have := (hlev i hi).1
      have h2 := h.2
      rw [e, Int.toNat_natCast] at h2
      omega
  · have := htol 0 (by omega)
    rw [hth0] at this
    exact zero_norm (hat 0 (by omega)).1 this
  · obtain ⟨ha, htg⟩ := hat i h2
    have hr := hring i h2
    unfold rOk at hr
    rw [hi, if_neg (by simp)] at hr
    simp only [Bool.and_eq_true] at hr
    have hto1 := htol i h2
    rw [hi] at hto1
    have hv : (nAt ns i).vec.n ≤ 4096 := by unfold toldB at hto1; exact of_decide_eq_true hto1
    obtain ⟨q1, q2⟩ := hlev i hi
    refine ⟨wf_r64 ha.2.2.2.2.2.1, wf_r64 htg, ⟨ha.1.len.symm, hv⟩, fun z hz => wf_r32 (ha.1.2.2.2 z hz), q1, ⟨ha.len, q2⟩, fun j l hj => ?_, place_rng hl1 hr.1.1, place_rng hl1 hr.1.2⟩
    have hjl : j < (nAt ns i).ls.length := (List.getElem?_eq_some_iff.1 hj).1
    have hm : l ∈ (nAt ns i).ls := List.mem_of_getElem? hj
    have h := hnode i hi
    unfold nodeB listsB at h
    simp only [Bool.and_eq_true, List.all_eq_true, List.mem_range] at h
    have hb := h.1.2 j (by rw [← ha.len]; exact hjl)
    unfold listB rightB at hb
    simp only [Bool.and_eq_true, decide_eq_true_eq, List.all_eq_true] at hb
    have hxs : lsAt (nAt ns i) j = l := by unfold lsAt; rw [List.getD_eq_getElem?_getD, hj]; rfl
    rw [hxs] at hb
    refine ⟨(ha.2.2.2.2.1 l hm).len.symm, hb.1.2, fun x hx => ?_⟩
    have := hb.1.1.1 x hx
    unfold okE at this
    simp only [Bool.and_eq_true, Bool.not_eq_true', decide_eq_false_iff_not] at this
    omega
  · have hto1 := htol i h2
    rw [hi] at hto1
    have hz := zero_norm (hat i h2).1 hto1
    have hr := hring i h2
    unfold rOk at hr
    rw [hi, decide_eq_true (show 0 < i by omega)] at hr
    simp only [Bool.not_false, Bool.and_self, if_true] at hr
    unfold bareB at hr
    simp only [Bool.and_eq_true, beq_iff_eq] at hr
    rw [hz, hr.1.1.1, hr.1.1.2]
    rfl
theorem lsZ_norm (l : IS) : lsZ l.norm = lsZ l := rfl
theorem ndZ_norm (d : ND) : ndZ d.norm = ndZ d := by
  unfold ndZ ND.norm IS.norm
  simp only [List.flatMap_map]
  rfl
theorem slZ_norm (ns : List ND) (i : Nat) : slZ (ns.map ND.norm) i = slZ ns i := by
  unfold slZ
  rw [thN_norm, nAt_norm, ndZ_norm]
theorem imZ_norm (ns : List ND) (links en tp : Int) : imZ (ns.map ND.norm) links en tp = imZ ns links en tp := by
  unfold imZ hdZ bdZ
  rw [List.length_map, nAt_norm]
  have : slZ (ns.map ND.norm) = slZ ns := funext (slZ_norm ns)
  rw [this]
  rfl
theorem tolB_norm (ns : List ND) : tolB (ns.map ND.norm) = tolB ns := by
  unfold tolB
  rw [List.length_map]
  congr 1
  funext i
  rw [thN_norm, nAt_norm]
  rfl
theorem putE_norm (ns : List ND) (links en tp : Int) : putE (ns.map ND.norm) links en tp = putE ns links en tp := by unfold putE; rw [chkB_norm, tolB_norm]
theorem putS_norm (ns : List ND) (links en tp : Int) : putS (ns.map ND.norm) links en tp = putS ns links en tp := by unfold putS putL; rw [putE_norm, imZ_norm]
theorem xor_u8 {b t : Int} : bits .xor .u8 b t = ((BitVec.ofInt 8 b ^^^ BitVec.ofInt 8 t).toNat : Int) := by
  show IntKind.u8.wrap ((BitVec.ofInt 8 b ^^^ BitVec.ofInt 8 t).toNat : Int) = _
  have := (BitVec.ofInt 8 b ^^^ BitVec.ofInt 8 t).isLt
  rw [IntKind.wrap_u8]; omega
theorem turn_x {b t : Int} (hb : 0 ≤ b ∧ b < 256) (ht : 0 ≤ t ∧ t < 256) (h0 : t ≠ 0) : ∃ x : Nat, bits .xor .u8 b t = (x : Int) ∧ x < 256 ∧ (x : Int) ≠ b := by
  refine ⟨_, xor_u8, (BitVec.ofInt 8 b ^^^ BitVec.ofInt 8 t).isLt, fun h => h0 ?_⟩
  have hb2 : ((BitVec.ofInt 8 b).toNat : Int) = b := by rw [BitVec.toNat_ofInt]; omega
  have h1 : BitVec.ofInt 8 b ^^^ BitVec.ofInt 8 t = BitVec.ofInt 8 b := BitVec.eq_of_toNat_eq (by omega)
  have h2 : BitVec.ofInt 8 t = 0#8 := by
    have := congrArg (BitVec.ofInt 8 b ^^^ ·) h1
    simpa [← BitVec.xor_assoc] using this
  have h3 := congrArg BitVec.toNat h2
  rw [BitVec.toNat_ofInt] at h3
  simp at h3
  omega
theorem turned_str (s : ByteArray) (j x : Nat) : (⟨(s.data.toList.set j (UInt8.ofNat x)).toArray⟩ : ByteArray) = strOfNums ((bytesOf s).set j (x : Int)) := by
  unfold strOfNums bytesOf
  rw [List.map_set, List.map_map]
  have : ((fun n : Int => UInt8.ofNat n.toNat) ∘ fun b : UInt8 => (b.toNat : Int)) = id := by funext b; simp
  rw [this, List.map_id]
  rfl
theorem smND_len {w : World} {B : Nat} {d : ND} (hd : d.At w B) (h : smND d = true) : (ndZ d).length ≤ 1000 := by
  unfold smND at h
  simp only [Bool.and_eq_true, decide_eq_true_eq, List.all_eq_true] at h
  obtain ⟨⟨h1, h2⟩, h3⟩ := h
  have hv := hd.1.len
  have hl := hd.len
  have hx : ∀ x ∈ d.ls, (lsZ x).length ≤ 81 := fun x hx => by
    have := h3 x hx
    have := (hd.2.2.2.2.1 x hx).len
    unfold lsZ
    rw [List.length_cons]; omega
  have hf := flat_le hx d.ls.length
  rw [List.take_length] at hf
  unfold ndZ
  simp only [List.length_append, List.length_cons, List.length_nil, List.length_map]
  omega
theorem bdZ_len2 {ns : List ND} : ∀ k, (∀ i, i < k → (slZ ns i).length ≤ 1000) → (bdZ ns k).length ≤ 1000 * k
  | 0, _ => by simp [bdZ]
  | k + 1, h => by
    have := bdZ_len2 k (fun i hi => h i (by omega))
    have := h k (by omega)
    rw [bdZ_succ, List.length_append]; omega
theorem bytes_numsZ : ∀ zs : List Int, Bytes (numsZ zs)
  | [] => by simp [numsZ, Bytes]
  | z :: zs => by rw [numsZ_cons]; exact (bytes_num _).append (bytes_numsZ zs)
theorem sum_bytesB (l : List Int) : Bytes (sumB l) := by
  obtain ⟨h0, h1⟩ := sum_bd l
  intro x hx
  simp only [sumB, List.mem_cons, List.not_mem_nil, or_false] at hx
  omega
theorem put_bytes {w : World} {B n c : Nat} {A : Option Addr} {ns : List ND} {en tp links : Int} (hg : PgAt w B A n c ns) (hs : smB ns = true) (he : putE ns links en tp = 0) : Bytes (putS ns links en tp) ∧ (putS ns links en tp).length ≤ 1000000 := by
  have e : putS ns links en tp = putL ns links en tp ++ sumB (putL ns links en tp) := by unfold putS; rw [if_pos he]
  unfold smB at hs
  rw [Bool.and_eq_true, decide_eq_true_eq, List.all_eq_true] at hs
  have hsl : ∀ i, i < ns.length → (slZ ns i).length ≤ 1000 := fun i hi => by
    have hm : nAt ns i ∈ ns := by rw [nAt_of (List.getElem?_eq_getElem hi)]; exact List.getElem_mem _
    have := smND_len (hg.2.2.2 _ hm) (hs.2 _ hm)
    unfold slZ
    split
    · exact this
    · split <;> simp
  have h1 := bdZ_len2 ns.length hsl
  have h2 := numsZ_len (imZ ns links en tp)
  have h3 : (imZ ns links en tp).length = 6 + (bdZ ns ns.length).length := by unfold imZ hdZ; simp only [List.length_append, List.length_cons, List.length_nil]
  have h4 : (sumB (putL ns links en tp)).length = 4 := rfl
  rw [e]
  refine ⟨Bytes.append (Bytes.append (fun x hx => by simp [mkL] at hx; omega) (bytes_numsZ _)) (sum_bytesB _), ?_⟩
  rw [List.length_append, h4]
  unfold putL
  rw [List.length_append]
  have h5 : mkL.length = 4 := rfl
  omega
theorem wpList_convT {P : Program} {ops : Array Oper} {rest : List Oper} {d : Option Tmp} {i : Tmp} {ty ty' t : TypeId} {s : String} {af : Array Edge} {a : Act} {w w' : World} {Q : Exit → Act → World → Prop} {x v : Value} (hr : (convert ty ty' x).run P w = .ok v w')
    (hx : a.eval (.tmp i) = x) (h : wpList P ops Q rest (a.put d v) w') : wpList P ops Q (⟨d, .convert ty ty' (.tmp i), t, s, af, none⟩ :: rest) a w :=
  wpList_plain rfl fun _ hK => by
    unfold Oper.wp execOp
    simp only [hx, Sem.run_bind, Result.andThen_ok, hr]
    exact hK _ _ h
/-- '[]byte(s)': the world behind it. -/
theorem conv_to (w : World) (s : ByteArray) : (convert 9 34 (.string s)).run Try.prog w = .ok (.slice (some ⟨w.heap.size, 0, none⟩) s.size (grownCap w s.size 0 5)) (Lib.bytesWorld w 5 s) :=
  Lib.run_convert_string_bytes w _ _ _ s Try.underlying9 Try.underlying34 Try.underlying5
theorem bw_below (w : World) (s : ByteArray) : Below w.heap.size w (Lib.bytesWorld w 5 s) :=
  ⟨by simp [Lib.bytesWorld, World.freeze, World.alloc, World.drew, -World.alloc_eq, -World.drew_eq], by simp [Lib.bytesWorld, World.freeze, World.alloc, World.drew, -World.alloc_eq, -World.drew_eq], by simp [Lib.bytesWorld, World.freeze, World.alloc, World.drew, -World.alloc_eq, -World.drew_eq], by rw [Lib.bytesWorld_size]; omega, fun k hk => Lib.bytesWorld_at_old w _ s k hk⟩
end Go.Proofs.Ytbpcddimnbjoeaa
