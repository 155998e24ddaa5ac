/- Plain laws: masks of places; what a text that is read tells. -/
import Derived.Test.YtokgcjhlmohjgaaDoorTagA
import Derived.Test.YtokgcjhlmohjgaaDoorBitQ
namespace Go.Proofs.YtokgcjhlmohjgaaDoor
open Go.RowKit
/-- The mask of places. -/
def mOf (l : List Int) : Nat := l.foldl (fun m i => m ||| 2 ^ i.toNat) 0
theorem mOf_snoc (l : List Int) (i : Int) : mOf (l ++ [i]) = mOf l ||| 2 ^ i.toNat := by simp [mOf, List.foldl_append]
theorem mOf_bit_ (j : Nat) : ∀ (l : List Int) (m : Nat), (l.foldl (fun m i => m ||| 2 ^ i.toNat) m).testBit j = (m.testBit j || l.any fun i => i.toNat == j)
  | [], m => by simp
  | i :: l, m => by
    rw [List.foldl_cons, mOf_bit_ j l, Nat.testBit_or, Nat.testBit_two_pow, List.any_cons, Bool.or_assoc]
    congr 2
theorem mOf_bit (l : List Int) (j : Nat) : (mOf l).testBit j = l.any fun i => i.toNat == j := by
  unfold mOf; rw [mOf_bit_]; simp
/-- Places of a word. -/
def Pl (l : List Int) : Prop := ∀ i ∈ l, 0 ≤ i ∧ i < 64
theorem Pl.take {l : List Int} (h : Pl l) (k : Nat) : Pl (l.take k) := fun i hi => h i (List.mem_of_mem_take hi)
theorem mOf_lt {l : List Int} (h : Pl l) : mOf l < 18446744073709551616 := by
  rw [show 18446744073709551616 = 2 ^ 64 by rfl]
  refine Nat.lt_pow_two_of_testBit _ fun j hj => ?_
  rw [mOf_bit, Bool.eq_false_iff]
  intro e
  obtain ⟨i, hi, he⟩ := List.any_eq_true.1 e
  have := h i hi
  have : i.toNat = j := eq_of_beq he
  omega
theorem mOf_mem {l : List Int} (h : Pl l) {y : Nat} : (mOf l).testBit y = decide ((y : Int) ∈ l) := by
  rw [mOf_bit]
  by_cases q : (y : Int) ∈ l
  · rw [decide_eq_true q]
    exact List.any_eq_true.2 ⟨_, q, by simp⟩
  · rw [decide_eq_false q, Bool.eq_false_iff]
    intro e
    obtain ⟨i, hi, he⟩ := List.any_eq_true.1 e
    have h1 := h i hi
    have h2 : i.toNat = y := eq_of_beq he
    have : i = (y : Int) := by omega
    rw [this] at hi
    exact q hi
theorem cnt_or (p : Nat → Bool) (i : Nat) (hp : p i = false) : ∀ n, ((List.range n).filter fun j => p j || decide (i = j)).length = ((List.range n).filter p).length + (if i < n then 1 else 0)
  | 0 => by simp
  | n + 1 => by
    rw [List.range_succ, List.filter_append, List.filter_append, List.length_append, List.length_append, cnt_or p i hp n]
    by_cases e : i = n
    · subst e
      simp [hp]
    · have e1 : ((i < n + 1) ↔ (i < n)) := by omega
      simp only [e1]
      cases h : p n <;> simp [h, e] <;> omega
theorem pop_add {m i : Nat} (hi : i < 64) (h : m.testBit i = false) : popN (m ||| 2 ^ i) = popN m + 1 := by
  unfold popN
  have := cnt_or m.testBit i h 64
  rw [if_pos hi] at this
  rw [← this]
  congr 2
  funext j
  rw [Nat.testBit_or, Nat.testBit_two_pow]
theorem or_same {m i : Nat} (h : m.testBit i = true) : m ||| 2 ^ i = m := by
  refine Nat.eq_of_testBit_eq fun j => ?_
  rw [Nat.testBit_or, Nat.testBit_two_pow]
  by_cases e : i = j
  · subst e; rw [h]; rfl
  · simp [e]
theorem nodup_snoc {l : List Int} {k : Nat} (hk : k < l.length) : (l.take (k + 1)).Nodup ↔ (l.take k).Nodup ∧ ig l k ∉ l.take k := by
  rw [take_step hk, List.nodup_append]
  simp
  intro _
  exact ⟨fun b hm => b _ hm rfl, fun b x hx e => b (e ▸ hx)⟩
theorem ig_mem2 {l : List Int} {k : Nat} (hk : k < l.length) : ig l k ∈ l := by
  rw [ig, List.getD_eq_getElem?_getD, List.getElem?_eq_getElem hk]; simp
theorem pop_mOf {l : List Int} (h : Pl l) : ∀ k, k ≤ l.length → popN (mOf (l.take k)) ≤ k ∧ (popN (mOf (l.take k)) = k ↔ (l.take k).Nodup)
  | 0, _ => by
    have : popN (mOf ([] : List Int)) = 0 := by decide
    simp [this]
  | k + 1, hk => by
    obtain ⟨h1, h2⟩ := pop_mOf h k (by omega)
    obtain ⟨y, hy⟩ : ∃ y : Nat, ig l k = y := Int.eq_ofNat_of_zero_le (h _ (ig_mem2 hk)).1
    have hy64 : y < 64 := by have := (h _ (ig_mem2 hk)).2; omega
    have hs := take_step hk
    rw [nodup_snoc hk, hs, mOf_snoc, hy, Int.toNat_natCast]
    have hb := mOf_mem (h.take k) (y := y)
    by_cases e : (y : Int) ∈ l.take k
    · rw [decide_eq_true e] at hb
      rw [or_same hb]
      exact ⟨by omega, ⟨fun q => by omega, fun q => absurd e q.2⟩⟩
    · rw [decide_eq_false e] at hb
      rw [pop_add hy64 hb]
      exact ⟨by omega, ⟨fun q => ⟨h2.1 (by omega), e⟩, fun q => by have := h2.2 q.1; omega⟩⟩
/-- Whether a list rises. -/
def srtB (l : List Int) : Bool := (List.range (l.length - 1)).all fun k => decide (ig l k ≤ ig l (k + 1))
theorem srt_iff {l : List Int} : srtB l = true ↔ ∀ k, k + 1 < l.length → ig l k ≤ ig l (k + 1) := by
  unfold srtB
  rw [List.all_eq_true]
  constructor
  · intro h k hk
    have := h k (by rw [List.mem_range]; omega)
    simpa using this
  · intro h k hk
    rw [List.mem_range] at hk
    simpa using h k (by omega)
/-- The places of a text's names; what is told of it; its mask. -/
def atsE (ts : List (List Int)) (s : List Int) : List Int := (partsE s).map (fiE ts)
def prsW (ts : List (List Int)) (s : List Int) : Int := if chkE ts = 0 then (if (atsE ts s).any (fun i => decide (i < 0)) then 3 else if (atsE ts s).Nodup then (if srtB (atsE ts s) then 0 else 11) else 10) else chkE ts
def prsM (ts : List (List Int)) (s : List Int) : Nat := if prsW ts s = 0 then mOf (atsE ts s) else 0
theorem prs_chk {ts : List (List Int)} {s : List Int} (h : chkE ts ≠ 0) : prsW ts s = chkE ts ∧ prsM ts s = 0 := by
  have e : prsW ts s = chkE ts := by unfold prsW; rw [if_neg h]
  exact ⟨e, by unfold prsM; rw [e, if_neg h]⟩
theorem prs_miss {ts : List (List Int)} {s : List Int} (h : chkE ts = 0) {k : Nat} (hk : k < (atsE ts s).length) (hn : ig (atsE ts s) k < 0) : prsW ts s = 3 ∧ prsM ts s = 0 := by
  have e : prsW ts s = 3 := by unfold prsW; rw [if_pos h, if_pos (List.any_eq_true.2 ⟨_, ig_mem2 hk, by simpa using hn⟩)]
  exact ⟨e, by unfold prsM; rw [e, if_neg (by decide)]⟩
theorem ats_len (ts : List (List Int)) (s : List Int) : (atsE ts s).length = (partsE s).length := by unfold atsE; simp
theorem ats_at {ts : List (List Int)} {s : List Int} {k : Nat} (hk : k < (partsE s).length) : ig (atsE ts s) k = fiE ts (tg (partsE s) k) := by
  rw [tg_get hk]
  unfold atsE
  simp [ig, List.getD_eq_getElem?_getD, hk]
theorem no_miss {l : List Int} (h : ∀ k, k < l.length → 0 ≤ ig l k) : (l.any fun i => decide (i < 0)) = false := by
  rw [Bool.eq_false_iff]
  intro e
  obtain ⟨i, hi, he⟩ := List.any_eq_true.1 e
  obtain ⟨k, hk, rfl⟩ := List.getElem_of_mem hi
  have h1 := h k hk
  have h2 : l[k] = ig l k := by simp [ig, List.getD_eq_getElem?_getD, hk]
  rw [h2] at he
  simp at he
  omega
theorem prs_twice {ts : List (List Int)} {s : List Int} (h : chkE ts = 0) (hm : ∀ k, k < (atsE ts s).length → 0 ≤ ig (atsE ts s) k) (hn : ¬ (atsE ts s).Nodup) : prsW ts s = 10 ∧ prsM ts s = 0 := by
  have e : prsW ts s = 10 := by unfold prsW; rw [if_pos h, no_miss hm, if_neg (by decide), if_neg hn]
  exact ⟨e, by unfold prsM; rw [e, if_neg (by decide)]⟩
theorem prs_order {ts : List (List Int)} {s : List Int} (h : chkE ts = 0) (hm : ∀ k, k < (atsE ts s).length → 0 ≤ ig (atsE ts s) k) (hn : (atsE ts s).Nodup) (hs : srtB (atsE ts s) = false) : prsW ts s = 11 ∧ prsM ts s = 0 := by
  have e : prsW ts s = 11 := by unfold prsW; rw [if_pos h, no_miss hm, if_neg (by decide), if_pos hn, hs, if_neg (by decide)]
  exact ⟨e, by unfold prsM; rw [e, if_neg (by decide)]⟩
theorem prs_ok {ts : List (List Int)} {s : List Int} (h : chkE ts = 0) (hm : ∀ k, k < (atsE ts s).length → 0 ≤ ig (atsE ts s) k) (hn : (atsE ts s).Nodup) (hs : srtB (atsE ts s) = true) : prsW ts s = 0 ∧ prsM ts s = mOf (atsE ts s) := by
  have e : prsW ts s = 0 := by unfold prsW; rw [if_pos h, no_miss hm, if_neg (by decide), if_pos hn, hs, if_pos rfl]
  exact ⟨e, by unfold prsM; rw [e, if_pos rfl]⟩
theorem fi_bd (ts : List (List Int)) (t : List Int) : fiE ts t < ts.length ∧ (0 ≤ fiE ts t ∨ fiE ts t = -1) := by
  unfold fiE
  split
  · rename_i h
    have := List.idxOf_lt_length_iff.2 h
    exact ⟨by omega, .inl (by omega)⟩
  · exact ⟨by omega, .inr rfl⟩
theorem bytes_split : ∀ (s : List Int), Bytes s → ∀ t ∈ splitL s, Bytes t
  | [], _, t, ht => by
    simp [splitL] at ht; subst ht; exact Bytes.nil
  | c :: r, h, t, ht => by
    have hr : Bytes r := fun b hb => h b (List.mem_cons_of_mem _ hb)
    have ih := bytes_split r hr
    rw [splitL] at ht
    split at ht
    · rcases List.mem_cons.1 ht with rfl | q
      · exact Bytes.nil
      · exact ih t q
    · have hc := h c (by simp)
      cases hq : splitL r with
      | nil =>
        rw [hq] at ht
        simp at ht
        subst ht
        exact fun b hb => by simp at hb; subst hb; exact hc
      | cons p ps =>
        rw [hq] at ht ih
        rcases List.mem_cons.1 ht with rfl | q
        · exact fun b hb => by
            rcases List.mem_cons.1 hb with rfl | q
            · exact hc
            · exact ih p (by simp) b q
        · exact ih t (List.mem_cons_of_mem _ q)
theorem bytes_parts {s : List Int} (h : Bytes s) : ∀ t ∈ partsE s, Bytes t := by
  unfold partsE
  split
  · intro t ht; cases ht
  · exact bytes_split s h
theorem len_split : ∀ (s : List Int), (splitL s).length ≤ s.length + 1
  | [] => by simp [splitL]
  | c :: r => by
    have ih := len_split r
    rw [splitL]
    split
    · simp; omega
    · cases hq : splitL r with
      | nil => simp
      | cons p ps => rw [hq] at ih; simp at ih ⊢; omega
theorem len_parts (s : List Int) : (partsE s).length ≤ s.length + 1 := by
  unfold partsE
  split
  · simp
  · exact len_split s
end Go.Proofs.YtokgcjhlmohjgaaDoor
