/- Words: Zig, Zag (merged of PackP PackW PackF PackJ PackK PackN PackB). -/
import Derived.Test.YtbpcddimnbjoeaaLitP
import Derived.Test.YtbpcddimnbjoeaaMem
import Derived.Lib.MinMax
import Derived.Laws.BitsAllLaws
namespace Go.Proofs.Ytbpcddimnbjoeaa
open Go.RowKit
/-- Whether widths may be, 'left' bits being left. -/
def wideF : List Int → Int → Bool
  | [], _ => true
  | n :: ns, left => if n < 1 ∨ left < n then false else wideF ns (left - n)
/-- The same, as the document counts: 'all' bits are given away. -/
def wideR : List Int → Int → Bool
  | [], all => decide (all ≤ 64)
  | n :: ns, all => if n < 1 ∨ 64 < n ∨ 64 < all then false else wideR ns (all + n)
theorem wideR_over (l : List Int) (all : Int) (h : 64 < all) : wideR l all = false := by
  cases l with
  | nil => simp [wideR]; omega
  | cons n ns => rw [wideR, if_pos (by omega)]
theorem wideR_eq : ∀ (l : List Int) (all : Int), 0 ≤ all → all ≤ 64 → wideR l all = wideF l (64 - all) := by
  intro l
  induction l with
  | nil => intro all h0 h1; simp [wideR, wideF]; omega
  | cons n ns ih =>
    intro all h0 h1
    rw [wideR, wideF]
    by_cases h : n < 1 ∨ 64 - all < n
    · rw [if_pos h]
      by_cases h' : n < 1 ∨ 64 < n ∨ 64 < all
      · rw [if_pos h']
      · rw [if_neg h']; exact wideR_over _ _ (by omega)
    · rw [if_neg h, if_neg (by omega), ih _ (by omega) (by omega), show 64 - all - n = 64 - (all + n) by omega]
theorem wideF_len : ∀ (l : List Int) (left : Int), 0 ≤ left → wideF l left = true → (l.length : Int) ≤ left := by
  intro l
  induction l with
  | nil => intro left h0 _; simpa using h0
  | cons n ns ih =>
    intro left h0 h
    rw [wideF] at h
    split at h
    · cases h
    · rename_i hn
      have := ih (left - n) (by omega) h
      simp; omega
/-- The parts of a word. -/
def fieldsF : Nat → List Int → List Int
  | _, [] => []
  | w, n :: ns => ((w % 2 ^ n.toNat : Nat) : Int) :: fieldsF (w / 2 ^ n.toNat) ns
theorem fields_len : ∀ (ns : List Int) (w : Nat), (fieldsF w ns).length = ns.length := by
  intro ns
  induction ns with
  | nil => intro w; rfl
  | cons n ns ih => intro w; simp [fieldsF, ih]
/-- The word of parts; none: one of them is too wide. -/
def joinF : Nat → Nat → List Int → List Int → Option Nat
  | acc, _, [], _ => some acc
  | acc, _, _ :: _, [] => some acc
  | acc, at_, x :: xs, n :: ns => if x.toNat < 2 ^ n.toNat then joinF (acc + x.toNat * 2 ^ at_) (at_ + n.toNat) xs ns else none
theorem low_law {v n : Nat} (h1 : n ≤ 64) : IntKind.u64.wrap ((v : Int) * 2 ^ (64 - n)) / 2 ^ (64 - n) = ((v % 2 ^ n : Nat) : Int) := by
  have e : (v : Int) * 2 ^ (64 - n) = ((v * 2 ^ (64 - n) : Nat) : Int) := by simp
  have e2 : (2 : Int) ^ (64 - n) = ((2 ^ (64 - n) : Nat) : Int) := by simp
  rw [e, wrap_nat, e2, ← Int.natCast_ediv]
  congr 1
  have e3 : (18446744073709551616 : Nat) = 2 ^ n * 2 ^ (64 - n) := by rw [← Nat.pow_add, show n + (64 - n) = 64 by omega]
  rw [e3, Nat.mul_mod_mul_right, Nat.mul_div_cancel _ (Nat.two_pow_pos _)]
/-- One bit more of a part. -/
theorem part_step {v f n j : Nat} (hj : j < n) : 2 * (v / 2 ^ f % 2 ^ n / 2 ^ (j + 1)) + v / 2 ^ (f + j) % 2 = v / 2 ^ f % 2 ^ n / 2 ^ j := by
  have e1 : v / 2 ^ (f + j) = v / 2 ^ f / 2 ^ j := by rw [Nat.div_div_eq_div_mul, Nat.pow_add]
  have e2 : v / 2 ^ f % 2 ^ n / 2 ^ j = v / 2 ^ f / 2 ^ j % 2 ^ (n - j) := by
    rw [show (2 ^ n : Nat) = 2 ^ j * 2 ^ (n - j) by rw [← Nat.pow_add, show j + (n - j) = n by omega], Nat.mod_mul_right_div_self]
  have e3 : v / 2 ^ f % 2 ^ n / 2 ^ (j + 1) = v / 2 ^ f % 2 ^ n / 2 ^ j / 2 := by rw [Nat.div_div_eq_div_mul, Nat.pow_succ]
  have e4 : v / 2 ^ f / 2 ^ j % 2 ^ (n - j) % 2 = v / 2 ^ f / 2 ^ j % 2 := by
    rw [show (2 ^ (n - j) : Nat) = 2 * 2 ^ (n - j - 1) by rw [Nat.mul_comm, ← Nat.pow_succ]; congr 1; omega, Nat.mod_mul_right_mod]
  rw [e3, e1, ← e4, ← e2]
  omega
def zigF (n : Int) : Int := if 0 ≤ n then 2 * n else 2 * (-(n + 1)) + 1
def zagF (n : Nat) : Int := if n % 2 = 0 then ((n / 2 : Nat) : Int) else - ((n / 2 : Nat) : Int) - 1
theorem ones64 : BitVec.ofInt 64 (-1) = BitVec.allOnes 64 := by decide
theorem xor_ones (a : Nat) (ha : a < 18446744073709551616) : bits .xor .u64 (a : Int) 18446744073709551615 = 18446744073709551615 - a := by
  show IntKind.u64.wrap ((BitVec.ofInt 64 (a : Int) ^^^ BitVec.ofInt 64 18446744073709551615).toNat : Int) = _
  rw [show BitVec.ofInt 64 18446744073709551615 = BitVec.allOnes 64 by decide, BitVec.xor_allOnes, BitVec.toNat_not, ofInt_u64 a ha, wrap_u64]
  omega
theorem xor_none (a : Nat) (ha : a < 18446744073709551616) : bits .xor .u64 (a : Int) 0 = a := by
  rw [show (0 : Int) = ((0 : Nat) : Int) by rfl, u64_xor_nat a 0 ha (by decide), Nat.xor_zero]
theorem ixor_ones (a : Nat) (ha : a < 9223372036854775808) : bits .xor .i64 (a : Int) (-1) = -(a : Int) - 1 := by
  show IntKind.i64.wrap ((BitVec.ofInt 64 (a : Int) ^^^ BitVec.ofInt 64 (-1)).toNat : Int) = _
  rw [ones64, BitVec.xor_allOnes, BitVec.toNat_not, ofInt_u64 a (by omega), IntKind.wrap_i64]
  omega
theorem ixor_none (a : Nat) (ha : a < 9223372036854775808) : bits .xor .i64 (a : Int) 0 = a := by
  show IntKind.i64.wrap ((BitVec.ofInt 64 (a : Int) ^^^ BitVec.ofInt 64 0).toNat : Int) = _
  rw [show BitVec.ofInt 64 0 = 0#64 by decide, BitVec.xor_zero, ofInt_u64 a (by omega), IntKind.wrap_i64]
  omega
theorem zig_law (n : Int) (h0 : -9223372036854775808 ≤ n) (h1 : n ≤ 9223372036854775807) :
    bits .xor .u64 (IntKind.u64.wrap (IntKind.u64.wrap n * 2)) (IntKind.u64.wrap (n / 9223372036854775808)) = zigF n := by
  unfold zigF
  rw [wrap_u64, wrap_u64, wrap_u64]
  split
  · rw [show (n / 9223372036854775808) % 18446744073709551616 = 0 by omega]
    obtain ⟨m, rfl⟩ := Int.eq_ofNat_of_zero_le (show 0 ≤ n by assumption)
    rw [show ((m : Int) % 18446744073709551616 * 2 % 18446744073709551616) = ((2 * m : Nat) : Int) by omega, xor_none _ (by omega)]
    omega
  · rw [show (n / 9223372036854775808) % 18446744073709551616 = 18446744073709551615 by omega]
    obtain ⟨m, hm⟩ := Int.eq_ofNat_of_zero_le (show 0 ≤ (n % 18446744073709551616 * 2 % 18446744073709551616) by omega)
    rw [hm, xor_ones _ (by omega), ← hm]
    omega
theorem zag_law (n : Nat) (h : n < 18446744073709551616) :
    bits .xor .i64 ((n : Int) / 2) (wrap64 (-wrap64 (bits .and .u64 (n : Int) 1))) = zagF n := by
  unfold zagF
  rw [show bits .and .u64 (n : Int) 1 = ((n % 2 : Nat) : Int) by rw [show (1 : Int) = ((1 : Nat) : Int) by rfl, u64_and_nat n 1 h (by decide), nat_mask1], show (n : Int) / 2 = ((n / 2 : Nat) : Int) by omega]
  split
  · rename_i e
    rw [e, show wrap64 (-wrap64 ((0 : Nat) : Int)) = 0 by decide +kernel, ixor_none _ (by omega)]
  · rw [show n % 2 = 1 by omega, show wrap64 (-wrap64 ((1 : Nat) : Int)) = -1 by decide +kernel, ixor_ones _ (by omega)]
theorem drop_ig {l : List Int} {k : Nat} (h : k < l.length) : l.drop k = ig l k :: l.drop (k + 1) := by
  rw [List.drop_eq_getElem_cons h, ig, List.getD_eq_getElem?_getD, List.getElem?_eq_getElem h]; rfl
theorem take_set {l : List Int} {k : Nat} {u : Int} (h : k < l.length) : (l.set k u).take (k + 1) = l.take k ++ [u] := by
  rw [take_step (by rw [List.length_set]; exact h), ig_set h, if_pos rfl, List.take_set_of_le (Nat.le_refl k)]
theorem part_val {v y s : Nat} (hv : v < 18446744073709551616) (hy : 2 * y + v / 2 ^ s % 2 < 18446744073709551616) :
    IntKind.u64.wrap (IntKind.u64.wrap (2 * (y : Int)) + bits .and .u64 ((v : Int) / 2 ^ s) 1) = ((2 * y + v / 2 ^ s % 2 : Nat) : Int) := by
  have e2 : (v : Int) / 2 ^ s = ((v / 2 ^ s : Nat) : Int) := by simp
  have hlt : v / 2 ^ s < 18446744073709551616 := Nat.lt_of_le_of_lt (Nat.div_le_self _ _) hv
  rw [e2, show (1 : Int) = ((1 : Nat) : Int) by rfl, u64_and_nat _ 1 hlt (by decide), nat_mask1, wrap_u64, wrap_u64]
  omega
/-- What a call that gives the parts of a word says. (A definition of its own, so that the walk leaves it whole.) -/
def RetF (zs vs : List Int) (w : World) (e : Ending) (w' : World) : Prop :=
  (∃ A c, e = .returned (.tuple #[.slice A (if wideF zs 64 then vs else []).length c, .int .i64 (if wideF zs 64 then 0 else 6)]) ∧
    Rd w' w'.heap.size A (if wideF zs 64 then vs else []).length ((if wideF zs 64 then vs else []).map (.int .u64))) ∧ Below w.heap.size w w'
theorem RetF.bad {zs vs : List Int} {w : World} (h : wideF zs 64 = false) : RetF zs vs w (.returned (.tuple #[.slice none 0 0, .int .i64 6])) w := by
  unfold RetF
  rw [h]
  exact ⟨⟨none, 0, rfl, Rd.nil_⟩, Below.refl _ _⟩
theorem RetF.good {zs vs : List Int} {w w' : World} {A : Option Addr} {n c : Nat} (h : wideF zs 64 = true) (hn : vs.length = n) (hr : Rd w' w'.heap.size A n (vs.map (.int .u64))) (hb : Below w.heap.size w w') :
    RetF zs vs w (.returned (.tuple #[.slice A n c, .int .i64 0])) w' := by
  unfold RetF
  rw [h]
  subst hn
  exact ⟨⟨A, c, rfl, hr⟩, hb⟩
theorem wide_step {z : Int} {zs : List Int} {left : Nat} (h : wideF (z :: zs) left = true) : ∃ n : Nat, z = n ∧ 0 < n ∧ n ≤ left ∧ wideF zs ((left - n : Nat) : Int) = true := by
  rw [wideF] at h
  split at h
  · cases h
  · rename_i hn
    obtain ⟨n, rfl⟩ := Int.eq_ofNat_of_zero_le (show 0 ≤ z by omega)
    exact ⟨n, rfl, by omega, by omega, by rw [show ((left - n : Nat) : Int) = (left : Int) - n by omega]; exact h⟩
/-- The word of parts, and why there is none. -/
def joinE (ls ws : List Int) : Int × Int := if wideF ws 64 then (if ls.length = ws.length then (match joinF 0 0 ls ws with | some x => ((x : Int), 0) | none => (0, 6)) else (0, 7)) else (0, 6)
theorem joinE_bad {ls ws : List Int} (h : wideF ws 64 = false) : joinE ls ws = (0, 6) := by unfold joinE; rw [h]; rfl
theorem joinE_len {ls ws : List Int} (h : wideF ws 64 = true) (hl : ls.length ≠ ws.length) : joinE ls ws = (0, 7) := by unfold joinE; rw [h, if_pos rfl, if_neg hl]
theorem joinE_none {ls ws : List Int} (h : wideF ws 64 = true) (hl : ls.length = ws.length) (hj : joinF 0 0 ls ws = none) : joinE ls ws = (0, 6) := by unfold joinE; rw [h, if_pos rfl, if_pos hl, hj]
theorem joinE_some {ls ws : List Int} {x : Nat} (h : wideF ws 64 = true) (hl : ls.length = ws.length) (hj : joinF 0 0 ls ws = some x) : joinE ls ws = ((x : Int), 0) := by unfold joinE; rw [h, if_pos rfl, if_pos hl, hj]
theorem join_bd {u at_ x n : Nat} (hu : u < 2 ^ at_) (hx : x < 2 ^ n) : u + x * 2 ^ at_ < 2 ^ (at_ + n) := by
  rw [Nat.pow_add]
  have : (x + 1) * 2 ^ at_ ≤ 2 ^ n * 2 ^ at_ := Nat.mul_le_mul_right _ hx
  rw [Nat.add_mul, Nat.one_mul, Nat.mul_comm (2 ^ n)] at this
  omega
theorem pow_le64 {a : Nat} (h : a ≤ 64) : 2 ^ a ≤ 18446744073709551616 := Nat.pow_le_pow_right (n := 2) (by decide) h
theorem join_or {u at_ x n : Nat} (hu : u < 2 ^ at_) (hx : x < 2 ^ n) (h : at_ + n ≤ 64) :
    bits .or .u64 (u : Int) (IntKind.u64.wrap ((x : Int) * 2 ^ at_)) = ((u + x * 2 ^ at_ : Nat) : Int) := by
  have h64 := Nat.lt_of_lt_of_le (join_bd hu hx) (pow_le64 h)
  have e : ((x : Int) * 2 ^ at_) = ((x * 2 ^ at_ : Nat) : Int) := by simp
  rw [e, wrap_nat, Nat.mod_eq_of_lt (by omega), u64_or_nat _ _ (by omega) (by omega)]
  congr 1
  rw [Nat.or_comm, nat_join at_ _ _ (by simp) hu]
  omega
theorem join_add {u at_ x n : Nat} (hu : u < 2 ^ at_) (hx : x < 2 ^ n) (h : at_ + n ≤ 64) :
    IntKind.u64.wrap ((u : Int) + IntKind.u64.wrap ((x : Int) * 2 ^ at_)) = ((u + x * 2 ^ at_ : Nat) : Int) := by
  have h64 := Nat.lt_of_lt_of_le (join_bd hu hx) (pow_le64 h)
  have e : ((x : Int) * 2 ^ at_) = ((x * 2 ^ at_ : Nat) : Int) := by simp
  rw [e, wrap_nat, Nat.mod_eq_of_lt (by omega : x * 2 ^ at_ < 18446744073709551616), show (u : Int) + ((x * 2 ^ at_ : Nat) : Int) = ((u + x * 2 ^ at_ : Nat) : Int) by simp, wrap_nat, Nat.mod_eq_of_lt h64]
/-- A call that leaves the world alone, met in a quiet region behind earlier draws. -/
theorem quiet_eq2 {P : Program} {f : FuncId} {args : Array Value} {w : World} {q n : Nat} {v : Value}
    (h : Calls P f args (w.drewN (q + n)) fun e w' => e = .returned v ∧ w.drewN (q + n) = w') : Calls P f args (w.drewN (q + n)) fun e w'' => e = .returned v ∧ ∃ m, w'' = w.drewN (q + m) :=
  h.mono fun _ _ ⟨he, hm⟩ => ⟨he, n, hm.symm⟩
def putRefE (s g : Int) : Int × Int := if s < 0 ∨ 4096 < s ∨ g < 0 ∨ 1099511627776 ≤ g then (0, 6) else (s + g * 8192, 0)
def putRingE (n p : Int) : Int × Int := if n < -1 ∨ 4096 < n ∨ p < -1 ∨ 4096 < p then (0, 6) else (n + 1 + (p + 1) * 8192, 0)
def putEntE (n l : Int) : Int × Int := if n < 0 ∨ 4096 < n ∨ l < 0 ∨ 7 < l then (0, 6) else (n + l * 8192, 0)
def refE (v : Nat) : (Int × Int) × Int := if 4096 < v % 8192 ∨ 1099511627776 ≤ v / 8192 then ((0, 0), 6) else (((v % 8192 : Nat), (v / 8192 : Nat)), 0)
def ringE (v : Nat) : (Int × Int) × Int := if 4097 < v % 8192 ∨ 4097 < v / 8192 then ((0, 0), 6) else ((((v % 8192 : Nat) : Int) - 1, ((v / 8192 : Nat) : Int) - 1), 0)
def entE (v : Nat) : (Int × Int) × Int := if 4096 < v % 8192 ∨ 7 < v / 8192 then ((0, 0), 6) else (((v % 8192 : Nat), (v / 8192 : Nat)), 0)
theorem pack_zig (n : Int) (h0 : -9223372036854775808 ≤ n) (h1 : n ≤ 9223372036854775807) (w : World) :
    Calls Try.prog 40 #[.int .i64 n] w fun e w' => e = .returned (.int .u64 (zigF n)) ∧ w = w' := by
  have hz := zig_law n h0 h1
  go_enter Try.func40, Try.ntmps40
  go_wp2
  try rw [hz]
  go_ret
  exact ⟨rfl, rfl⟩
theorem pack_zag (n : Nat) (h : n < 18446744073709551616) (w : World) :
    Calls Try.prog 70 #[.int .u64 n] w fun e w' => e = .returned (.int .i64 (zagF n)) ∧ w = w' := by
  have hz := zag_law n h
  go_enter Try.func70, Try.ntmps70
  go_wp2
  try rw [hz]
  go_ret
  exact ⟨rfl, rfl⟩
theorem ref_zig (n : Int) (h0 : -9223372036854775808 ≤ n) (h1 : n ≤ 9223372036854775807) (w : World) :
    Calls Try.prog 44 #[.int .i64 n] w fun e w' => e = .returned (.int .u64 (zigF n)) ∧ w = w' := by
  by_cases h : 0 ≤ n
  · have hz : zigF n = 2 * n := by unfold zigF; rw [if_pos h]
    have t : decide (0 ≤ n) = true := by simp; omega
    have HZ := Lib.hid hz
    go_enter Try.func44, Try.ntmps44
    go_wp2
    go_ret
    exact ⟨by rw [HZ.out]; rfl, rfl⟩
  · have hz : zigF n = 2 * (-(n + 1)) + 1 := by unfold zigF; rw [if_neg h]
    have t : decide (0 ≤ n) = false := by simp; omega
    have HZ := Lib.hid hz
    go_enter Try.func44, Try.ntmps44
    go_wp2
    go_ret
    exact ⟨rfl, rfl⟩
theorem ref_zag (n : Nat) (h : n < 18446744073709551616) (w : World) :
    Calls Try.prog 54 #[.int .u64 n] w fun e w' => e = .returned (.int .i64 (zagF n)) ∧ w = w' := by
  by_cases h2 : n % 2 = 0
  · have t : ((n : Int) % 2 == 0) = true := by simp; omega
    have HZ : Hid (zagF n = ((n / 2 : Nat) : Int)) := by show _ = _; unfold zagF; rw [if_pos h2]
    clear h2
    go_enter Try.func54, Try.ntmps54
    go_wp2
    go_ret
    exact ⟨by rw [HZ.out]; rfl, rfl⟩
  · have t : ((n : Int) % 2 == 0) = false := by simp; omega
    have HZ : Hid (zagF n = -((n / 2 : Nat) : Int) - 1) := by show _ = _; unfold zagF; rw [if_neg h2]
    clear h2
    go_enter Try.func54, Try.ntmps54
    go_wp2
    go_ret
    exact ⟨by rw [HZ.out]; rfl, rfl⟩
theorem or13 {s g : Int} (h0 : 0 ≤ s) (h1 : s < 8192) (h2 : 0 ≤ g) (h3 : g < 1125899906842624) : bits .or .u64 (g * 8192) s = s + g * 8192 := by
  obtain ⟨a, rfl⟩ := Int.eq_ofNat_of_zero_le h0
  obtain ⟨b, rfl⟩ := Int.eq_ofNat_of_zero_le h2
  rw [show (b : Int) * 8192 = ((b * 8192 : Nat) : Int) by simp, u64_or_nat _ _ (by omega) (by omega), nat_join 13 _ _ (by show b * 8192 % 8192 = 0; omega) (by show a < 8192; omega)]
  omega
/-- How many bits the widths have together. -/
def totF : List Int → Nat
  | [] => 0
  | n :: ns => n.toNat + totF ns
theorem join_fields : ∀ (ns : List Int) (w acc at_ : Nat), joinF acc at_ (fieldsF w ns) ns = some (acc + w % 2 ^ totF ns * 2 ^ at_) := by
  intro ns
  induction ns with
  | nil => intro w acc at_; simp [fieldsF, joinF, totF, Nat.mod_one]
  | cons n ns ih =>
    intro w acc at_
    rw [fieldsF, joinF, if_pos (by rw [Int.toNat_natCast]; exact Nat.mod_lt _ (Nat.two_pow_pos _)), ih, totF, Int.toNat_natCast, Nat.pow_add (2 : Nat) n.toNat, Nat.mod_mul, Nat.pow_add (2 : Nat) at_, Nat.add_mul]
    congr 1
    rw [Nat.add_assoc, Nat.mul_comm (2 ^ at_), Nat.mul_comm (2 ^ n.toNat) (w / 2 ^ n.toNat % 2 ^ totF ns), Nat.mul_assoc]
theorem fields_mod : ∀ (ns : List Int) (w : Nat), fieldsF (w % 2 ^ totF ns) ns = fieldsF w ns := by
  intro ns
  induction ns with
  | nil => intro w; rfl
  | cons n ns ih =>
    intro w
    rw [fieldsF, fieldsF, totF, Nat.pow_add, Nat.mod_mul_right_mod, Nat.mod_mul_right_div_self, ih]
theorem joinE_fields {w : Nat} {ns : List Int} (h : wideF ns 64 = true) : joinE (fieldsF w ns) ns = (((w % 2 ^ totF ns : Nat) : Int), 0) :=
  joinE_some h (fields_len ns w) (by rw [join_fields]; simp)
theorem word_fields (ns : List Int) (w : Nat) (hw : w < 18446744073709551616) : ∀ z ∈ fieldsF w ns, Word z := by
  induction ns generalizing w with
  | nil => intro z h; cases h
  | cons n ns ih =>
    intro z h
    rw [fieldsF] at h
    rcases List.mem_cons.1 h with rfl | h
    · exact word_of_nat (Nat.lt_of_le_of_lt (Nat.mod_le _ _) hw)
    · exact ih _ (Nat.lt_of_le_of_lt (Nat.div_le_self _ _) hw) z h
/-- The low bits of a word, without the word's, are none. -/
theorem low_andnot (w t : Nat) (hw : w < 18446744073709551616) : bits .andNot .u64 ((w % 2 ^ t : Nat) : Int) (w : Int) = 0 := by
  rw [u64_andNot_nat _ _ (Nat.lt_of_le_of_lt (Nat.mod_le _ _) hw) hw]
  congr 1
  apply Nat.eq_of_testBit_eq
  intro i
  rw [Nat.testBit_and, Nat.testBit_mod_two_pow, show 18446744073709551615 - w = 2 ^ 64 - (w + 1) by omega, Nat.testBit_two_pow_sub_succ hw, Nat.zero_testBit]
  cases w.testBit i <;> simp
theorem zagzig (n : Int) (h0 : -9223372036854775808 ≤ n) (h1 : n ≤ 9223372036854775807) : zagF (zigF n).toNat = n ∧ 0 ≤ zigF n ∧ zigF n < 18446744073709551616 := by
  unfold zagF zigF
  split <;> split <;> omega
theorem zigzag (v : Nat) (hv : v < 18446744073709551616) : zigF (zagF v) = v ∧ -9223372036854775808 ≤ zagF v ∧ zagF v ≤ 9223372036854775807 := by
  unfold zagF zigF
  split <;> split <;> omega
end Go.Proofs.Ytbpcddimnbjoeaa
