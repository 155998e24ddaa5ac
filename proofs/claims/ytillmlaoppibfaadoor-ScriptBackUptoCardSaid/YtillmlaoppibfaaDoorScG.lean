/- Scripts, plain law: a line's words and its acts. -/
import Derived.Test.YtillmlaoppibfaaDoorScE
import Derived.Test.YtillmlaoppibfaaDoorScQ
namespace Go.Proofs.YtillmlaoppibfaaDoor
open Go.RowKit
/-- An act. -/
structure SAct where
  wk : Int
  kd : Int
  id : Nat
  vec : List Int
  tg : Nat
  k : Int
  ef : Int
  dr : Nat
instance sactDec : DecidableEq SAct := fun a b =>
  decidable_of_iff (a.wk = b.wk ∧ a.kd = b.kd ∧ a.id = b.id ∧ a.vec = b.vec ∧ a.tg = b.tg ∧ a.k = b.k ∧ a.ef = b.ef ∧ a.dr = b.dr) (by
    cases a
    cases b
    simp)
def evN : Nat := 18446744073709551615
def storeW : List UInt8 := [115, 116, 111, 114, 101]
def pickW : List UInt8 := [112, 105, 99, 107]
/-- The word of a kind. -/
def wordN (k : Int) : List UInt8 :=
  if k = 1 then [105, 110, 115, 101, 114, 116] else if k = 2 then [100, 101, 108, 101, 116, 101] else if k = 3 then [103, 101, 116]
  else if k = 4 then [115, 101, 97, 114, 99, 104] else if k = 5 then [108, 101, 110] else if k = 6 then [99, 108, 111, 115, 101] else []
/-- The kind of a word. -/
def kindN (w : List UInt8) : Int :=
  if wordN 6 = w then 6 else if wordN 5 = w then 5 else if wordN 4 = w then 4 else if wordN 3 = w then 3 else if wordN 2 = w then 2 else if wordN 1 = w then 1 else 0
def vecO : List (List UInt8) → Option (List Int)
  | [] => some []
  | l :: r => match intO l, vecO r with
    | some z, some zs => some (z :: zs)
    | _, _ => none
theorem vecO_snoc : ∀ (l : List (List UInt8)) (x : List UInt8), vecO (l ++ [x]) = (vecO l).bind fun zs => (intO x).map fun z => zs ++ [z]
  | [], x => by
    show (match intO x, vecO [] with | some z, some zs => some (z :: zs) | _, _ => none) = _
    cases intO x <;> rfl
  | a :: l, x => by
    show (match intO a, vecO (l ++ [x]) with | some z, some zs => some (z :: zs) | _, _ => none) = (match intO a, vecO l with | some z, some zs => some (z :: zs) | _, _ => none : Option (List Int)).bind _
    rw [vecO_snoc l x]
    cases intO a <;> cases vecO l <;> cases intO x <;> rfl
theorem vecO_len : ∀ {l : List (List UInt8)} {zs : List Int}, vecO l = some zs → zs.length = l.length
  | [], zs, h => by injection h with h; rw [← h]; rfl
  | a :: l, zs, h => by
    unfold vecO at h
    split at h
    · rename_i z ys h1 h2
      injection h with h
      rw [← h, List.length_cons, List.length_cons, vecO_len h2]
    · cases h
theorem vecO_itoa : ∀ (zs : List Int), (∀ z ∈ zs, -2147483648 ≤ z ∧ z ≤ 2147483647) → vecO (zs.map Lib.itoa) = some zs
  | [], _ => rfl
  | z :: zs, h => by
    rw [List.map_cons]
    unfold vecO
    rw [intO_itoa (h z (by simp)), vecO_itoa zs (fun y hy => h y (by simp [hy]))]
theorem vecO_some : ∀ {l : List (List UInt8)} {zs : List Int}, vecO l = some zs → zs.map Lib.itoa = l ∧ ∀ z ∈ zs, -2147483648 ≤ z ∧ z ≤ 2147483647
  | [], zs, h => by injection h with h; rw [← h]; exact ⟨rfl, by simp⟩
  | a :: l, zs, h => by
    unfold vecO at h
    split at h
    · rename_i z ys h1 h2
      injection h with h
      have q := vecO_some h2
      have p := intO_some h1
      rw [← h, List.map_cons, p.1, q.1]
      refine ⟨rfl, fun y hy => ?_⟩
      rcases List.mem_cons.1 hy with rfl | hy
      · exact p.2
      · exact q.2 y hy
    · cases h
def pickA (wk : Int) : SAct := ⟨wk, 0, 0, [], 0, 0, 0, 0⟩
/-- What a line's words behind the first two say. -/
def bodyO (word : List UInt8) (kd : Int) (wk : Nat) (r : List (List UInt8)) : Option (SAct × Nat) :=
  if kd = 1 then
    match numO (r.headD []) evN, numO (r.tail.headD []) evN, numO (r.tail.tail.headD []) evN, vecO r.tail.tail.tail with
    | some id, some tg, some dr, some vs => some (⟨wk, 1, id, vs, tg, 0, 0, dr⟩, 1)
    | _, _, _, _ => none
  else if kd = 4 then
    match numO (r.headD []) evN, numO (r.tail.headD []) 4096, numO (r.tail.tail.headD []) 4096, vecO r.tail.tail.tail with
    | some tg, some k, some ef, some vs => some (⟨wk, 4, 0, vs, tg, k, ef, 0⟩, 1)
    | _, _, _, _ => none
  else if kd = 2 ∨ kd = 3 then
    match numO (r.headD []) evN with
    | some id => if r.tail = [] then some (⟨wk, kd, id, [], 0, 0, 0, 0⟩, 1) else none
    | none => none
  else if kd = 5 ∨ kd = 6 then (if r = [] then some (⟨wk, kd, 0, [], 0, 0, 0, 0⟩, 1) else none)
  else
    match numO (r.headD []) 4096 with
    | some n => if r.tail = [] ∧ word = pickW ∧ 1 ≤ n then some (pickA wk, n) else none
    | none => none
/-- A line's acts: one, so often. -/
def actsO (ws : List (List UInt8)) : Option (SAct × Nat) :=
  match numO (ws.tail.headD []) 64 with
  | none => none
  | some wk => bodyO (ws.headD []) (kindN (ws.headD [])) wk ws.tail.tail
/-- The words of a line. -/
def wordsOf (g : SAct × Nat) : List (List UInt8) :=
  if g.1.kd = 1 then wordN 1 :: Lib.decDigits g.1.wk.toNat :: Lib.decDigits g.1.id :: Lib.decDigits g.1.tg :: Lib.decDigits g.1.dr :: g.1.vec.map Lib.itoa
  else if g.1.kd = 4 then wordN 4 :: Lib.decDigits g.1.wk.toNat :: Lib.decDigits g.1.tg :: Lib.decDigits g.1.k.toNat :: Lib.decDigits g.1.ef.toNat :: g.1.vec.map Lib.itoa
  else if g.1.kd = 2 ∨ g.1.kd = 3 then [wordN g.1.kd, Lib.decDigits g.1.wk.toNat, Lib.decDigits g.1.id]
  else if g.1.kd = 5 ∨ g.1.kd = 6 then [wordN g.1.kd, Lib.decDigits g.1.wk.toNat]
  else [pickW, Lib.decDigits g.1.wk.toNat, Lib.decDigits g.2]
/-- A call in its right form. -/
def formB (a : SAct) : Bool :=
  decide ((a.kd = 1 ∧ a.k = 0 ∧ a.ef = 0) ∨
    (a.kd = 4 ∧ a.id = 0 ∧ a.dr = 0 ∧ 0 ≤ a.k ∧ a.k ≤ 4096 ∧ 0 ≤ a.ef ∧ a.ef ≤ 4096) ∨
    ((a.kd = 2 ∨ a.kd = 3) ∧ a.vec = [] ∧ a.tg = 0 ∧ a.k = 0 ∧ a.ef = 0 ∧ a.dr = 0) ∨
    ((a.kd = 5 ∨ a.kd = 6) ∧ a.id = 0 ∧ a.vec = [] ∧ a.tg = 0 ∧ a.k = 0 ∧ a.ef = 0 ∧ a.dr = 0))
/-- Within what the types hold. -/
def SAct.Rng (a : SAct) : Prop := a.id ≤ 18446744073709551615 ∧ a.tg ≤ 18446744073709551615 ∧ a.dr ≤ 18446744073709551615 ∧ ∀ z ∈ a.vec, -2147483648 ≤ z ∧ z ≤ 2147483647
/-- A line that may be. -/
def GOK (g : SAct × Nat) : Prop := 0 ≤ g.1.wk ∧ g.1.wk ≤ 64 ∧ g.1.Rng ∧ ((g.1 = pickA g.1.wk ∧ 1 ≤ g.2 ∧ g.2 ≤ 4096) ∨ (g.2 = 1 ∧ formB g.1 = true))
theorem kind_word {k : Int} (h : 1 ≤ k ∧ k ≤ 6) : kindN (wordN k) = k := by
  have : k = 1 ∨ k = 2 ∨ k = 3 ∨ k = 4 ∨ k = 5 ∨ k = 6 := by omega
  rcases this with rfl | rfl | rfl | rfl | rfl | rfl <;> decide
theorem word_kind {w : List UInt8} (h : kindN w ≠ 0) : wordN (kindN w) = w := by
  unfold kindN at h ⊢
  split
  · assumption
  · split
    · assumption
    · split
      · assumption
      · split
        · assumption
        · split
          · assumption
          · split
            · assumption
            · rename_i h6 h5 h4 h3 h2 h1
              simp [h6, h5, h4, h3, h2, h1] at h
theorem kind_range (w : List UInt8) : 0 ≤ kindN w ∧ kindN w ≤ 6 := by
  unfold kindN
  repeat' split
  all_goals omega
/-- What is printed is read. -/
theorem acts_words {g : SAct × Nat} (h : GOK g) : actsO (wordsOf g) = some g := by
  obtain ⟨⟨wk, kd, id, vec, tg, k, ef, dr⟩, n⟩ := g
  obtain ⟨h1, h2, ⟨r1, r2, r3, r4⟩, h3⟩ := h
  simp only at h1 h2 r1 r2 r3 r4 h3
  have hwk : ((wk.toNat : Nat) : Int) = wk := by omega
  have hn : numO (Lib.decDigits wk.toNat) 64 = some wk.toNat := numO_dec (by omega) (by omega)
  rcases h3 with ⟨h4, h5, h6⟩ | ⟨rfl, h4⟩
  · simp only [pickA, SAct.mk.injEq, true_and] at h4
    obtain ⟨rfl, rfl, rfl, rfl, rfl, rfl, rfl⟩ := h4
    simp only [wordsOf, actsO, List.tail_cons, List.headD_cons, Int.reduceEq, if_false, or_self]
    have hk : kindN pickW = 0 := by decide
    rw [hn, hk]
    simp only [bodyO, Int.reduceEq, if_false, or_self, List.headD_cons, List.tail_cons]
    rw [numO_dec h6 (by omega)]
    simp only [true_and]
    rw [if_pos h5]
    simp [pickA, hwk]
  · simp only [formB, decide_eq_true_eq] at h4
    rcases h4 with ⟨rfl, rfl, rfl⟩ | ⟨rfl, rfl, rfl, q1, q2, q3, q4⟩ | ⟨hk, rfl, rfl, rfl, rfl, rfl⟩ | ⟨hk, rfl, rfl, rfl, rfl, rfl, rfl⟩
    · simp only [wordsOf, actsO, List.tail_cons, List.headD_cons, if_true]
      rw [hn, kind_word (by omega)]
      simp only [bodyO, if_true, List.headD_cons, List.tail_cons]
      rw [numO_dec (most := evN) r1 (by decide), numO_dec (most := evN) r2 (by decide), numO_dec (most := evN) r3 (by decide), vecO_itoa vec r4]
      simp [hwk]
    · simp only [wordsOf, actsO, List.tail_cons, List.headD_cons, if_true, Int.reduceEq, if_false]
      rw [hn, kind_word (by omega)]
      simp only [bodyO, if_true, Int.reduceEq, if_false, List.headD_cons, List.tail_cons]
      rw [numO_dec (most := evN) r2 (by decide), numO_dec (u := k.toNat) (most := 4096) (by omega) (by omega), numO_dec (u := ef.toNat) (most := 4096) (by omega) (by omega), vecO_itoa vec r4]
      have e1 : ((k.toNat : Nat) : Int) = k := by omega
      have e2 : ((ef.toNat : Nat) : Int) = ef := by omega
      simp [hwk, e1, e2]
    · have e : wordsOf (⟨wk, kd, id, [], 0, 0, 0, 0⟩, 1) = [wordN kd, Lib.decDigits wk.toNat, Lib.decDigits id] := by
        unfold wordsOf
        simp only
        rw [if_neg (by omega), if_neg (by omega), if_pos hk]
      rw [e]
      simp only [actsO, List.tail_cons, List.headD_cons]
      rw [hn, kind_word (by omega)]
      simp only [bodyO, List.tail_cons, List.headD_cons]
      rw [if_neg (by omega), if_neg (by omega), if_pos hk, numO_dec (most := evN) r1 (by decide)]
      simp [hwk]
    · have e : wordsOf (⟨wk, kd, 0, [], 0, 0, 0, 0⟩, 1) = [wordN kd, Lib.decDigits wk.toNat] := by
        unfold wordsOf
        simp only
        rw [if_neg (by omega), if_neg (by omega), if_neg (by omega), if_pos hk]
      rw [e]
      simp only [actsO, List.tail_cons, List.headD_cons]
      rw [hn, kind_word (by omega)]
      simp only [bodyO]
      rw [if_neg (by omega), if_neg (by omega), if_neg (by omega), if_pos hk]
      simp [hwk]
theorem dec_cons {u : Nat} {ws : List (List UInt8)} (h : Lib.decDigits u = ws.headD []) : ws = Lib.decDigits u :: ws.tail := by
  cases ws with
  | nil => exact absurd h (dec_ne u)
  | cons a r => rw [h]; rfl
/-- What is read is printed. -/
theorem words_acts {ws : List (List UInt8)} {g : SAct × Nat} (h : actsO ws = some g) : GOK g ∧ wordsOf g = ws := by
  unfold actsO at h
  split at h
  · cases h
  · rename_i wk hwk
    obtain ⟨hw64, hwd⟩ := numO_some hwk
    have e1 := dec_cons hwd
    have e0 : ws = ws.headD [] :: ws.tail := by
      cases ws with
      | nil => rw [List.tail_nil] at e1; cases e1
      | cons a r => rfl
    obtain ⟨word, hword⟩ : ∃ x, ws.headD [] = x := ⟨_, rfl⟩
    obtain ⟨r, hr⟩ : ∃ x, ws.tail.tail = x := ⟨_, rfl⟩
    rw [hword, hr] at h
    rw [hword, e1, hr] at e0
    have hkr := kind_range word
    have hwi : (wk : Int).toNat = wk := by omega
    unfold bodyO at h
    by_cases k1 : kindN word = 1
    · rw [if_pos k1] at h
      have hwn := word_kind (w := word) (by omega)
      rw [k1] at hwn
      split at h
      · rename_i id tg dr vs q1 q2 q3 q4
        injection h with h
        subst h
        have p1 := numO_some q1
        have p2 := numO_some q2
        have p3 := numO_some q3
        have p4 := vecO_some q4
        refine ⟨⟨by simp only; omega, by simp only; omega, ⟨p1.1, p2.1, p3.1, p4.2⟩, .inr ⟨rfl, by simp [formB]⟩⟩, ?_⟩
        unfold wordsOf
        simp only [if_true]
        rw [e0, dec_cons p1.2, dec_cons p2.2, dec_cons p3.2, hwn, hwi, p4.1]
      · cases h
    · rw [if_neg k1] at h
      by_cases k4 : kindN word = 4
      · rw [if_pos k4] at h
        have hwn := word_kind (w := word) (by omega)
        rw [k4] at hwn
        split at h
        · rename_i tg k ef vs q1 q2 q3 q4
          injection h with h
          subst h
          have p1 := numO_some q1
          have p2 := numO_some q2
          have p3 := numO_some q3
          have p4 := vecO_some q4
          refine ⟨⟨by simp only; omega, by simp only; omega, ⟨by simp only; omega, p1.1, by simp only; omega, p4.2⟩, .inr ⟨rfl, by simp only [formB, decide_eq_true_eq]; refine .inr (.inl ⟨?_, ?_, ?_, ?_, ?_, ?_, ?_⟩) <;> first | trivial | omega⟩⟩, ?_⟩
          unfold wordsOf
          simp only [if_true, Int.reduceEq, if_false, Int.toNat_natCast]
          rw [e0, dec_cons p1.2, dec_cons p2.2, dec_cons p3.2, hwn, p4.1]
        · cases h
      · rw [if_neg k4] at h
        by_cases k2 : kindN word = 2 ∨ kindN word = 3
        · rw [if_pos k2] at h
          have hwn := word_kind (w := word) (by omega)
          split at h
          · rename_i id q1
            have p1 := numO_some q1
            split at h
            · rename_i ht
              injection h with h
              subst h
              refine ⟨⟨by simp only; omega, by simp only; omega, ⟨p1.1, by simp only; omega, by simp only; omega, by simp⟩, .inr ⟨rfl, by simp only [formB, decide_eq_true_eq]; refine .inr (.inr (.inl ⟨k2, ?_, ?_, ?_, ?_, ?_⟩)) <;> trivial⟩⟩, ?_⟩
              unfold wordsOf
              simp only
              rw [if_neg k1, if_neg k4, if_pos k2, e0, dec_cons p1.2, ht, hwn, hwi]
            · cases h
          · cases h
        · rw [if_neg k2] at h
          by_cases k5 : kindN word = 5 ∨ kindN word = 6
          · rw [if_pos k5] at h
            have hwn := word_kind (w := word) (by omega)
            split at h
            · rename_i ht
              injection h with h
              subst h
              refine ⟨⟨by simp only; omega, by simp only; omega, ⟨by simp only; omega, by simp only; omega, by simp only; omega, by simp⟩, .inr ⟨rfl, by simp only [formB, decide_eq_true_eq]; refine .inr (.inr (.inr ⟨k5, ?_, ?_, ?_, ?_, ?_, ?_⟩)) <;> trivial⟩⟩, ?_⟩
              unfold wordsOf
              simp only
              rw [if_neg k1, if_neg k4, if_neg k2, if_pos k5, e0, ht, hwn, hwi]
            · cases h
          · rw [if_neg k5] at h
            split at h
            · rename_i n q1
              have p1 := numO_some q1
              split at h
              · rename_i ht
                injection h with h
                subst h
                refine ⟨⟨by simp only [pickA]; omega, by simp only [pickA]; omega, ⟨by simp only [pickA]; omega, by simp only [pickA]; omega, by simp only [pickA]; omega, by simp [pickA]⟩, .inl ⟨rfl, ht.2.2, p1.1⟩⟩, ?_⟩
                unfold wordsOf pickA
                simp only [Int.reduceEq, if_false, or_self]
                rw [e0, dec_cons p1.2, ht.1, ht.2.1, hwi]
              · cases h
            · cases h
end Go.Proofs.YtillmlaoppibfaaDoor
