/- Plain laws of package little: numbers and texts as bytes. A text is a list of byte values. No program in sight. -/
import Derived.WalkKit
import Derived.Laws.BytesArg
import Derived.Test.YtillmlaoppibfaaDoorRngP
namespace Go.Proofs.YtillmlaoppibfaaDoor
open Go.RowKit

/-- Byte values. -/
def Bytes (l : List Int) : Prop := ∀ b ∈ l, 0 ≤ b ∧ b < 256
def bytesOf (s : ByteArray) : List Int := s.data.toList.map fun b => (b.toNat : Int)
theorem bytes_of (s : ByteArray) : Bytes (bytesOf s) := by
  intro b hb
  obtain ⟨x, _, rfl⟩ := List.mem_map.1 hb
  have := x.toNat_lt
  exact ⟨by omega, by omega⟩
theorem str_of (s : ByteArray) : strOfNums (bytesOf s) = s := by
  unfold strOfNums bytesOf
  rw [List.map_map]
  have : ((fun n : Int => UInt8.ofNat n.toNat) ∘ fun b : UInt8 => (b.toNat : Int)) = id := by funext b; simp
  rw [this, List.map_id]
theorem of_str {l : List Int} (h : Bytes l) : bytesOf (strOfNums l) = l := by
  unfold bytesOf
  rw [strOfNums_data, List.map_map]
  conv => rhs; rw [← List.map_id l]
  apply List.map_congr_left
  intro b hb
  obtain ⟨h0, h1⟩ := h b hb
  simp [UInt8.toNat_ofNat']
  omega
theorem str_inj {l m : List Int} (hl : Bytes l) (hm : Bytes m) (h : strOfNums l = strOfNums m) : l = m := by
  rw [← of_str hl, ← of_str hm, h]
theorem size_of (s : ByteArray) : (bytesOf s).length = s.size := by unfold bytesOf; rw [List.length_map]; rfl
theorem str_append (l m : List Int) : strOfNums l ++ strOfNums m = strOfNums (l ++ m) := by
  simp only [strOfNums, ByteArray.mk_append_mk, List.map_append]
theorem str_extract (l : List Int) (a b : Nat) : (strOfNums l).extract a b = strOfNums ((l.drop a).take (b - a)) := by
  simp only [strOfNums, ByteArray.extract_mk, List.map_take, List.map_drop]
theorem str_get (l : List Int) (hl : Bytes l) (k : Nat) (h : k < (strOfNums l).size) : (((strOfNums l)[k]'h).toNat : Int) = l.getD k 0 := by
  have hk : k < l.length := by rw [strOfNums_size] at h; exact h
  have e : (strOfNums l)[k]'h = UInt8.ofNat (l[k]).toNat := by
    show (strOfNums l).data[k] = _
    simp [strOfNums]
  obtain ⟨h0, h1⟩ := hl l[k] (List.getElem_mem hk)
  rw [e, List.getD_eq_getElem?_getD, List.getElem?_eq_getElem hk]
  simp [UInt8.toNat_ofNat']
  omega
theorem str_toList (l m : List Int) (hl : Bytes l) (hm : Bytes m) : ((strOfNums l).toList == (strOfNums m).toList) = decide (l = m) := by
  by_cases h : l = m
  · subst h; simp
  · have : (strOfNums l).toList ≠ (strOfNums m).toList := fun e => h (str_inj hl hm (by
      rw [ByteArray.toList_eq, ByteArray.toList_eq] at e
      have e2 : (strOfNums l).data = (strOfNums m).data := by
        rw [← Array.toArray_toList (xs := (strOfNums l).data), e]
      cases hA : strOfNums l; cases hB : strOfNums m
      rw [hA, hB] at e2
      exact congrArg _ e2))
    rw [beq_eq_false_iff_ne.2 this, decide_eq_false h]
theorem Bytes.drop {l : List Int} (h : Bytes l) (k : Nat) : Bytes (l.drop k) := fun b hb => h b (List.mem_of_mem_drop hb)
theorem Bytes.take {l : List Int} (h : Bytes l) (k : Nat) : Bytes (l.take k) := fun b hb => h b (List.mem_of_mem_take hb)
theorem Bytes.append {l m : List Int} (h : Bytes l) (h' : Bytes m) : Bytes (l ++ m) := fun b hb => by
  rcases List.mem_append.1 hb with q | q
  · exact h b q
  · exact h' b q
theorem bytes_of_all {l : List Int} (h : (l.all fun b => decide (0 ≤ b ∧ b < 256)) = true) : Bytes l := fun b hb => by simpa using List.all_eq_true.1 h b hb
theorem Bytes.nil : Bytes [] := fun b hb => by cases hb
theorem Bytes.at_ {l : List Int} (h : Bytes l) (k : Nat) : 0 ≤ l.getD k 0 ∧ l.getD k 0 < 256 := by
  rw [List.getD_eq_getElem?_getD]
  rcases Nat.lt_or_ge k l.length with hk | hk
  · rw [List.getElem?_eq_getElem hk]; exact h _ (List.getElem_mem hk)
  · rw [List.getElem?_eq_none hk]; exact ⟨by decide, by decide⟩

/-! ### A number's bytes -/
/-- With so much fuel: seven bits a byte, the least first. -/
def numB : Nat → Nat → List Int
  | 0, n => [((n % 256 : Nat) : Int)]
  | f + 1, n => if n < 128 then [(n : Int)] else ((n % 128 + 128 : Nat) : Int) :: numB f (n / 128)
/-- A number's bytes. -/
def numL (n : Nat) : List Int := numB 9 n
theorem bytes_numB : ∀ (f n : Nat), Bytes (numB f n) := by
  intro f
  induction f with
  | zero => intro n b hb; simp [numB] at hb; subst hb; omega
  | succ f ih =>
    intro n b hb
    rw [numB] at hb
    split at hb
    · simp at hb; subst hb; omega
    · rcases List.mem_cons.1 hb with q | q
      · subst q; omega
      · exact ih _ b q
theorem len_numB : ∀ (f n : Nat), (numB f n).length ≤ f + 1 ∧ 0 < (numB f n).length := by
  intro f
  induction f with
  | zero => intro n; simp [numB]
  | succ f ih =>
    intro n
    rw [numB]
    split
    · simp
    · have := ih (n / 128); simp; omega
theorem bytes_num (n : Nat) : Bytes (numL n) := bytes_numB 9 n
theorem len_num (n : Nat) : (numL n).length ≤ 10 ∧ 0 < (numL n).length := len_numB 9 n

/-! ### A number, read -/
/-- The number that begins at place i of a text (the places before it have given acc); how many bytes it has; and why it is none. -/
def numFrom : List Int → Nat → Nat → Nat × Nat × Nat
  | [], _, _ => (0, 0, 8)
  | b :: rest, i, acc =>
    if i = 10 ∨ (i = 9 ∧ 1 < b.toNat % 128) then (0, 0, 7)
    else if 128 ≤ b then numFrom rest (i + 1) (acc + b.toNat % 128 * 2 ^ (7 * i))
    else if b = 0 ∧ 0 < i then (0, 0, 7)
    else (acc + b.toNat % 128 * 2 ^ (7 * i), i + 1, 0)
def numOf (l : List Int) : Nat × Nat × Nat := numFrom l 0 0
theorem numFrom_step (b x i acc : Nat) (rest : List Int) (hx : b % 128 = x) : numFrom ((b : Int) :: rest) i acc =
    if i = 10 ∨ (i = 9 ∧ 1 < x) then (0, 0, 7) else if (128 : Int) ≤ b then numFrom rest (i + 1) (acc + x * 2 ^ (7 * i)) else if (b : Int) = 0 ∧ 0 < i then (0, 0, 7) else (acc + x * 2 ^ (7 * i), i + 1, 0) := by
  subst hx; rw [numFrom]; rfl
theorem numFrom_bd : ∀ (l : List Int) (i acc : Nat), (numFrom l i acc).2.1 ≤ i + l.length ∧ ((numFrom l i acc).2.2 ≠ 0 → (numFrom l i acc).2.1 = 0 ∧ (numFrom l i acc).1 = 0) ∧ (numFrom l i acc).2.2 ≤ 8 := by
  intro l
  induction l with
  | nil => intro i acc; exact ⟨by simp [numFrom], fun _ => ⟨rfl, rfl⟩, by simp [numFrom]⟩
  | cons b rest ih =>
    intro i acc
    rw [numFrom]
    split
    · exact ⟨by simp, fun _ => ⟨rfl, rfl⟩, by simp⟩
    · split
      · have := ih (i + 1) (acc + b.toNat % 128 * 2 ^ (7 * i))
        exact ⟨by simp; omega, this.2⟩
      · split
        · exact ⟨by simp, fun _ => ⟨rfl, rfl⟩, by simp⟩
        · exact ⟨by simp, fun h => absurd rfl h, by simp⟩
theorem pow7 (i : Nat) : 2 ^ (7 * (i + 1)) = 128 * 2 ^ (7 * i) := by rw [show 7 * (i + 1) = 7 * i + 7 by omega, Nat.pow_add]; omega
theorem acc_bd {i acc x : Nat} (h : acc < 2 ^ (7 * i)) (hx : x < 128) : acc + x * 2 ^ (7 * i) < 2 ^ (7 * (i + 1)) := by
  rw [pow7]
  have := Nat.mul_le_mul_right (2 ^ (7 * i)) (show x ≤ 127 by omega)
  omega
theorem pow_63 {i : Nat} (h : i ≤ 9) : 2 ^ (7 * i) ≤ 9223372036854775808 := by
  have : 2 ^ (7 * i) ≤ 2 ^ 63 := Nat.pow_le_pow_right (by decide) (by omega)
  exact this
theorem acc_64 {i acc x : Nat} (hi : i ≤ 9) (h : acc < 2 ^ (7 * i)) (hx : x < 128) (h9 : i = 9 → x ≤ 1) : acc + x * 2 ^ (7 * i) < 18446744073709551616 := by
  rcases Nat.lt_or_ge i 9 with q | q
  · have h1 := acc_bd h hx
    have h2 := pow_63 (show i + 1 ≤ 9 by omega)
    omega
  · obtain rfl : i = 9 := by omega
    have := h9 rfl
    have h3 := Nat.mul_le_mul_right (2 ^ (7 * 9)) this
    have h2 := pow_63 (show 9 ≤ 9 by omega)
    omega
theorem or_step {i acc x : Nat} (hi : i ≤ 9) (h : acc < 2 ^ (7 * i)) (hx : x < 128) (h9 : i = 9 → x ≤ 1) :
    bits .or .u64 (acc : Int) (IntKind.u64.wrap ((x : Int) * 2 ^ (7 * i))) = ((acc + x * 2 ^ (7 * i) : Nat) : Int) := by
  have h64 := acc_64 hi h hx h9
  have e : ((x : Int) * 2 ^ (7 * i)) = ((x * 2 ^ (7 * i) : Nat) : Int) := by simp
  rw [e, wrap_nat, Nat.mod_eq_of_lt (by omega), u64_or_nat _ _ (by have := pow_63 hi; omega) (by omega)]
  congr 1
  rw [Nat.or_comm, nat_join (7 * i) _ _ (by simp) h]
  omega
theorem add_step {i acc x : Nat} (hi : i ≤ 9) (h : acc < 2 ^ (7 * i)) (hx : x < 128) (h9 : i = 9 → x ≤ 1) :
    IntKind.u64.wrap ((acc : Int) + IntKind.u64.wrap ((x : Int) * 2 ^ (7 * i))) = ((acc + x * 2 ^ (7 * i) : Nat) : Int) := by
  have h64 := acc_64 hi h hx h9
  have e : ((x : Int) * 2 ^ (7 * i)) = ((x * 2 ^ (7 * i) : Nat) : Int) := by simp
  rw [e, wrap_nat, Nat.mod_eq_of_lt (by omega : x * 2 ^ (7 * i) < 18446744073709551616), show (acc : Int) + ((x * 2 ^ (7 * i) : Nat) : Int) = ((acc + x * 2 ^ (7 * i) : Nat) : Int) by simp, wrap_nat, Nat.mod_eq_of_lt h64]
theorem and127 (b : Nat) (h : b < 256) : bits .and .u8 (b : Int) 127 = ((b % 128 : Nat) : Int) := by
  rw [show (127 : Int) = ((127 : Nat) : Int) by rfl, u8_and_nat b 127 h (by decide), nat_mask7]
theorem or128 (b : Nat) (h : b < 256) : bits .or .u8 (b : Int) 128 = ((b % 128 + 128 : Nat) : Int) := by
  rw [show (128 : Int) = ((128 : Nat) : Int) by rfl, u8_or_nat b 128 h (by decide)]
  have : ∀ j : Fin 256, j.val ||| 128 = j.val % 128 + 128 := by decide +kernel
  exact congrArg _ (this ⟨b, h⟩)
/-- A text's bytes. -/
def textL (l : List Int) : List Int := numL l.length ++ l
theorem bytes_text {l : List Int} (h : Bytes l) : Bytes (textL l) := (bytes_num _).append h
/-- A text, read: it, what is left behind it, and why there is none. -/
def wordOf (l : List Int) : List Int × List Int × Nat :=
  let r := numOf l
  if r.2.2 ≠ 0 then ([], l, r.2.2)
  else if 65536 < r.1 then ([], l, 9)
  else if (l.drop r.2.1).length < r.1 then ([], l, 8)
  else ((l.drop r.2.1).take r.1, (l.drop r.2.1).drop r.1, 0)
end Go.Proofs.YtillmlaoppibfaaDoor
