/- Scripts, plain law: a whole text; there and back. -/
import Derived.Test.YtillmlaoppibfaaDoorScG
import Derived.Test.YtillmlaoppibfaaDoorScD
import Derived.Test.YtillmlaoppibfaaDoorScC
import Derived.Test.YtillmlaoppibfaaDoorScS
import Derived.Test.YtillmlaoppibfaaDoorScY
import Derived.Test.YtillmlaoppibfaaDoorScZ
namespace Go.Proofs.YtillmlaoppibfaaDoor
open Go.RowKit
theorem joinW_cons (w : List UInt8) : ∀ (ws : List (List UInt8)), joinW 32 (w :: ws) = w ++ (ws.map (32 :: ·)).flatten
  | [] => by simp [joinW]
  | v :: ws => by
    show w ++ 32 :: joinW 32 (v :: ws) = _
    rw [joinW_cons v ws]
    simp
theorem tailW_words : ∀ (us : List Nat), tailW us = ((us.map Lib.decDigits).map (32 :: ·)).flatten
  | [] => rfl
  | u :: us => by simp [tailW, tailW_words us]
theorem tailZ_words : ∀ (zs : List Int), tailZ zs = ((zs.map Lib.itoa).map (32 :: ·)).flatten
  | [] => rfl
  | z :: zs => by simp [tailZ, tailZ_words zs]
theorem line_words (g : SAct × Nat) : lineN g = joinW 32 (wordsOf g) := by
  unfold lineN wordsOf
  split
  · rw [joinW_cons, tailW_words, tailZ_words]; simp
  · split
    · rw [joinW_cons, tailW_words, tailZ_words]; simp
    · split
      · rw [joinW_cons, tailW_words]; simp
      · split
        · rw [joinW_cons, tailW_words]; simp
        · rw [joinW_cons, tailW_words]; simp
/-- A word: no blank, no line's end. -/
def Wd (w : List UInt8) : Prop := (32 : UInt8) ∉ w ∧ (10 : UInt8) ∉ w
theorem dec_wd (u : Nat) : Wd (Lib.decDigits u) := by
  have h := dec_digits u u (Nat.le_refl _)
  exact ⟨fun q => by have := h _ q; simp at this, fun q => by have := h _ q; simp at this⟩
theorem itoa_wd (z : Int) : Wd (Lib.itoa z) := by
  unfold Lib.itoa
  split
  · have h := dec_wd z.natAbs
    exact ⟨fun q => by rcases List.mem_cons.1 q with q | q; exact absurd q (by decide); exact h.1 q, fun q => by rcases List.mem_cons.1 q with q | q; exact absurd q (by decide); exact h.2 q⟩
  · exact dec_wd _
theorem word_wd (k : Int) : Wd (wordN k) := by
  unfold wordN Wd
  repeat' split
  all_goals decide
theorem words_wd (g : SAct × Nat) : ∀ w ∈ wordsOf g, Wd w := by
  have hp : Wd pickW := by unfold Wd; decide
  intro w hw
  unfold wordsOf at hw
  split at hw
  · rcases (by simpa using hw : w = wordN 1 ∨ w = _ ∨ w = _ ∨ w = _ ∨ w = _ ∨ ∃ a ∈ g.1.vec, Lib.itoa a = w) with rfl | rfl | rfl | rfl | rfl | ⟨a, _, rfl⟩
    · exact word_wd 1
    · exact dec_wd _
    · exact dec_wd _
    · exact dec_wd _
    · exact dec_wd _
    · exact itoa_wd a
  · split at hw
    · rcases (by simpa using hw : w = wordN 4 ∨ w = _ ∨ w = _ ∨ w = _ ∨ w = _ ∨ ∃ a ∈ g.1.vec, Lib.itoa a = w) with rfl | rfl | rfl | rfl | rfl | ⟨a, _, rfl⟩
      · exact word_wd 4
      · exact dec_wd _
      · exact dec_wd _
      · exact dec_wd _
      · exact dec_wd _
      · exact itoa_wd a
    · split at hw
      · rcases (by simpa using hw : w = _ ∨ w = _ ∨ w = _) with rfl | rfl | rfl
        · exact word_wd _
        · exact dec_wd _
        · exact dec_wd _
      · split at hw
        · rcases (by simpa using hw : w = _ ∨ w = _) with rfl | rfl
          · exact word_wd _
          · exact dec_wd _
        · rcases (by simpa using hw : w = _ ∨ w = _ ∨ w = _) with rfl | rfl | rfl
          · exact hp
          · exact dec_wd _
          · exact dec_wd _
theorem words_ne (g : SAct × Nat) : wordsOf g ≠ [] := by
  unfold wordsOf
  repeat' split
  all_goals simp
/-- A line is its words, split. -/
theorem split_words {ws : List (List UInt8)} (h : ∀ w ∈ ws, Wd w) (hne : ws ≠ []) : splitW (joinW 32 ws) = ws := by
  unfold splitW Lib.split
  have h1 : ∀ w ∈ ws, (32 : UInt8) ∉ w := fun w hw => (h w hw).1
  have hc := count_join 32 ws h1 hne
  rw [show Lib.count (joinW 32 ws) [32] = ws.length - 1 by omega]
  exact split_join 32 ws h1 hne
theorem join_wd {ws : List (List UInt8)} (h : ∀ w ∈ ws, Wd w) : (10 : UInt8) ∉ joinW 32 ws := by
  cases ws with
  | nil => simp [joinW]
  | cons w r =>
    rw [joinW_cons]
    intro q
    rcases List.mem_append.1 q with q | q
    · exact (h w (by simp)).2 q
    · rw [List.mem_flatten] at q
      obtain ⟨x, hx, q⟩ := q
      obtain ⟨v, hv, rfl⟩ := List.mem_map.1 hx
      rcases List.mem_cons.1 q with q | q
      · exact absurd q (by decide)
      · exact (h v (by simp [hv])).2 q
theorem index_parts (c : UInt8) : ∀ (s : List UInt8) (i : Nat), Lib.index s [c] = i → s = s.take i ++ c :: s.drop (i + 1)
  | [], i, h => by
    have : Lib.index ([] : List UInt8) [c] = -1 := rfl
    rw [this] at h
    omega
  | b :: s, i, h => by
    unfold Lib.index at h
    split at h
    · rename_i hp
      have hb : c = b := by simpa [List.isPrefixOf] using hp
      have : i = 0 := by omega
      subst this
      subst hb
      rfl
    · split at h
      · omega
      · have hge := Lib.index_ge s [c]
        rename_i hn
        have hn' : Lib.index s [c] ≠ -1 := fun e => hn (by rw [e]; rfl)
        obtain ⟨j, rfl⟩ : ∃ j, i = j + 1 := ⟨i - 1, by omega⟩
        have ih := index_parts c s j (by omega)
        rw [List.take_succ_cons, List.drop_succ_cons, List.cons_append, ← ih]
/-- What is split is joined again. -/
theorem join_splitK (c : UInt8) : ∀ (f : Nat) (s : List UInt8), joinW c (Lib.splitK [c] 0 (Lib.countFrom [c] f s) s) = s
  | 0, s => rfl
  | f + 1, s => by
    unfold Lib.countFrom
    by_cases h : (Lib.index s [c] == -1) = true
    · rw [if_pos h]; rfl
    · rw [if_neg h, Nat.add_comm 1, Lib.splitK, if_neg h, Nat.add_zero]
      obtain ⟨i, hi⟩ : ∃ i : Nat, Lib.index s [c] = i := ⟨(Lib.index s [c]).toNat, by
        have := Lib.index_ge s [c]
        have h' : Lib.index s [c] ≠ -1 := fun e => h (by rw [e]; rfl)
        omega⟩
      rw [hi, Int.toNat_natCast]
      have hs : s = s.take i ++ c :: s.drop (i + 1) := index_parts c s i hi
      have ih := join_splitK c f (s.drop (i + [c].length))
      have hne : Lib.splitK [c] 0 (Lib.countFrom [c] f (s.drop (i + [c].length))) (s.drop (i + [c].length)) ≠ [] := by
        intro q
        have := splitK_len [c] f (s.drop (i + [c].length))
        rw [q] at this
        simp at this
      cases hk : Lib.splitK [c] 0 (Lib.countFrom [c] f (s.drop (i + [c].length))) (s.drop (i + [c].length)) with
      | nil => exact absurd hk hne
      | cons v vs =>
        rw [hk] at ih
        show s.take i ++ c :: joinW c (v :: vs) = s
        rw [ih]
        exact hs.symm
theorem join_split (l : List UInt8) : joinW 32 (splitW l) = l := join_splitK 32 _ l
end Go.Proofs.YtillmlaoppibfaaDoor
