/- More heaps at once; orders. -/
import Derived.Test.YtpcbfoddlpgdjaaHpS
import Derived.Test.YtpcbfoddlpgdjaaPermK
namespace Go.Proofs.Ytpcbfoddlpgdjaa
open Go.RowKit
/-- Heaps that lie apart. -/
structure HsAt (w : World) (Bs : Nat → Prop) (hs : List HR) : Prop where
  at_ : ∀ (i : Nat) (h : HR), hs[i]? = some h → HpAt w h
  sep : ∀ (i j : Nat) (a b : HR), i ≠ j → hs[i]? = some a → hs[j]? = some b → ∀ k, foot a k → ¬ foot b k
  bs : ∀ (i : Nat) (h : HR), hs[i]? = some h → ∀ k, foot h k → Bs k
theorem HsAt.keep {w w' : World} {Bs S : Nat → Prop} {hs : List HR} (H : HsAt w Bs hs) (hT : Tch S w w') (hS : ∀ k, Bs k → ¬ S k) : HsAt w' Bs hs :=
  ⟨fun i h hi => (H.at_ i h hi).tch hT fun k hk => hS k (H.bs i h hi k hk), H.sep, H.bs⟩
theorem HsAt.below {w w' : World} {Bs : Nat → Prop} {hs : List HR} (H : HsAt w Bs hs) (hb : Below w.heap.size w w') : HsAt w' Bs hs := H.keep (Tch.of_below (S := fun _ => False) hb) (fun _ _ q => q)
theorem HsAt.more {w : World} {Bs Bs' : Nat → Prop} {hs : List HR} (H : HsAt w Bs hs) (hB : ∀ k, k < w.heap.size → Bs k → Bs' k) : HsAt w Bs' hs :=
  ⟨H.at_, H.sep, fun i h hi k hk => hB k ((H.at_ i h hi).foot_lt k hk) (H.bs i h hi k hk)⟩
theorem HsAt.upd {w w' : World} {Bs : Nat → Prop} {hs : List HR} {i : Nat} {h h' : HR} (H : HsAt w Bs hs) (hi : hs[i]? = some h) (h1 : HpAt w' h') (hT : Tch (foot h) w w') (hf : ∀ k, foot h' k → foot h k ∨ w.heap.size ≤ k) (hB : ∀ k, w.heap.size ≤ k → Bs k) : HsAt w' Bs (hs.set i h') := by
  have hil := (List.getElem?_eq_some_iff.1 hi).1
  have cases : ∀ j a, (hs.set i h')[j]? = some a → (j = i ∧ a = h') ∨ (j ≠ i ∧ hs[j]? = some a) := by
    intro j a hj
    by_cases e : i = j
    · subst e
      rw [List.getElem?_set_self hil] at hj
      injection hj with hj
      exact .inl ⟨rfl, hj.symm⟩
    · rw [List.getElem?_set_ne e] at hj
      exact .inr ⟨fun q => e q.symm, hj⟩
  have apart : ∀ j b, j ≠ i → hs[j]? = some b → ∀ k, foot h' k → ¬ foot b k := by
    intro j b hj hb k hk hbk
    rcases hf k hk with q | q
    · exact H.sep i j h b (fun e => hj e.symm) hi hb k q hbk
    · have := (H.at_ j b hb).foot_lt k hbk
      omega
  refine ⟨fun j a hj => ?_, fun j j' a b hne hj hj' k ha hb => ?_, fun j a hj k hk => ?_⟩
  · rcases cases j a hj with ⟨_, rfl⟩ | ⟨hne, hj⟩
    · exact h1
    · exact (H.at_ j a hj).tch hT fun k hk q => H.sep i j h a (fun e => hne e.symm) hi hj k q hk
  · rcases cases j a hj with ⟨rfl, rfl⟩ | ⟨n1, hj⟩
    · rcases cases j' b hj' with ⟨rfl, _⟩ | ⟨n2, hj'⟩
      · exact hne rfl
      · exact apart j' b n2 hj' k ha hb
    · rcases cases j' b hj' with ⟨e2, e3⟩ | ⟨n2, hj'⟩
      · rw [e3] at hb
        exact apart j a n1 hj k hb ha
      · exact H.sep j j' a b hne hj hj' k ha hb
  · rcases cases j a hj with ⟨_, rfl⟩ | ⟨_, hj⟩
    · rcases hf k hk with q | q
      · exact H.bs i h hi k q
      · exact hB k q
    · exact H.bs j a hj k hk
theorem HsAt.add {w w' : World} {Bs : Nat → Prop} {hs : List HR} {h : HR} (H : HsAt w Bs hs) (hb : Below w.heap.size w w') (h1 : HpAt w' h) (hf : ∀ k, foot h k → w.heap.size ≤ k) (hB : ∀ k, w.heap.size ≤ k → Bs k) : HsAt w' Bs (hs ++ [h]) := by
  have cases : ∀ j a, (hs ++ [h])[j]? = some a → (j = hs.length ∧ a = h) ∨ (j < hs.length ∧ hs[j]? = some a) := by
    intro j a hj
    by_cases e : j < hs.length
    · rw [List.getElem?_append_left e] at hj
      exact .inr ⟨e, hj⟩
    · rw [List.getElem?_append_right (by omega)] at hj
      have h0 : j - hs.length = 0 := by
        by_cases h0 : j - hs.length = 0
        · exact h0
        · rw [List.getElem?_eq_none (by simp; omega)] at hj; cases hj
      rw [h0] at hj
      injection hj with hj
      exact .inl ⟨by omega, hj.symm⟩
  have H' := H.below hb
  refine ⟨fun j a hj => ?_, fun j j' a b hne hj hj' k ha hbk => ?_, fun j a hj k hk => ?_⟩
  · rcases cases j a hj with ⟨_, rfl⟩ | ⟨_, hj⟩
    · exact h1
    · exact H'.at_ j a hj
  · rcases cases j a hj with ⟨e1, rfl⟩ | ⟨n1, hj⟩
    · rcases cases j' b hj' with ⟨e2, _⟩ | ⟨n2, hj'⟩
      · omega
      · have h3 := (H.at_ j' b hj').foot_lt k hbk
        have h4 := hf k ha
        omega
    · rcases cases j' b hj' with ⟨e2, e3⟩ | ⟨n2, hj'⟩
      · have h3 := (H.at_ j a hj).foot_lt k ha
        rw [e3] at hbk
        have h4 := hf k hbk
        omega
      · exact H.sep j j' a b hne hj hj' k ha hbk
  · rcases cases j a hj with ⟨_, rfl⟩ | ⟨_, hj⟩
    · exact hB k (hf k hk)
    · exact H.bs j a hj k hk
theorem HsAt.nil_ (w : World) (Bs : Nat → Prop) : HsAt w Bs [] := ⟨fun i h hi => by simp at hi, fun i j a b _ hi => by simp at hi, fun i h hi => by simp at hi⟩
/-- The best of some, in one place. -/
def BstI (m hb : Nat) (S : List Sp) (h : HR) : Prop := h.hb = hb ∧ h.f = 26 ∧ h.rest = [.int .i64 ((m : Nat) : Int)] ∧ Hp (fun a b => ahB b a) h.L ∧ BI m S h.L
theorem b_offerH (m : Nat) (hm : m ≤ 4096) {Bs : Nat → Prop} {hs : List HR} {i hb : Nat} {h : HR} (S : List Sp) (x : Sp) (w : World) (H : HsAt w Bs hs) (hi : hs[i]? = some h) (hb_ : BstI m hb S h) (hB : ∀ k, w.heap.size ≤ k → Bs k) :
    Calls Try.prog 11 #[.pointer (some ⟨hb, 0, none⟩), spV x] w (fun e w' => ∃ (r : Bool) (h' : HR), e = .returned (.bool r) ∧ HsAt w' Bs (hs.set i h') ∧ BstI m hb (S ++ [x]) h' ∧ Tch Bs w w') := by
  obtain ⟨q1, q2, q3, q4, q5⟩ := hb_
  have := b_offerG m hm h S x w (H.at_ i h hi) q2 q3 q4 q5
  rw [q1] at this
  refine this.mono ?_
  rintro e w' ⟨r, h', rfl, h1, p1, p2, p3, p4, p5, p6, p7, _⟩
  exact ⟨r, h', rfl, H.upd hi h1 p6 p7 hB, ⟨p1.trans q1, p2.trans q2, p3.trans q3, p4, p5⟩, p6.mono fun k _ hk => H.bs i h hi k hk⟩
theorem b_listH (m : Nat) (hm : m ≤ 4096) {Bs : Nat → Prop} {hs : List HR} {i hb : Nat} {h : HR} {S : List Sp} (w : World) (H : HsAt w Bs hs) (hi : hs[i]? = some h) (hb_ : BstI m hb S h) :
    Calls Try.prog 13 #[.pointer (some ⟨hb, 0, none⟩)] w (RetO ((sortSp S).take m) w) := by
  have := b_list h w (H.at_ i h hi) (by rw [hb_.2.2.2.2.len]; omega)
  rw [hb_.1, hb_.2.2.2.2.sort] at this
  exact this
theorem perm_from (seed : Int) : ∀ (i : Nat) (l : List Int), i < l.length → (permFrom seed i l).Perm l
  | 0, _, _ => .refl _
  | i + 1, l, h => by
    have hk := permK_le seed (i + 1)
    have e1 : ig l (i + 1) = l[i + 1] := by unfold ig; rw [List.getD_eq_getElem?_getD, List.getElem?_eq_getElem h]; rfl
    have hk2 : permK seed (i + 1) < l.length := by omega
    have e2 : ig l (permK seed (i + 1)) = l[permK seed (i + 1)] := by unfold ig; rw [List.getD_eq_getElem?_getD, List.getElem?_eq_getElem hk2]; rfl
    have hp : (swapI l (i + 1) (permK seed (i + 1))).Perm l := by
      unfold swapI
      rw [e1, e2]
      exact List.set_set_perm h hk2
    exact (perm_from seed i _ (by rw [len_swap]; omega)).trans hp
theorem perm_upto (seed : Int) (n : Nat) : (permI seed n).Perm (upto n) := by
  rcases Nat.eq_zero_or_pos n with rfl | h
  · exact .refl _
  · exact perm_from seed (n - 1) _ (by rw [len_upto]; omega)
/-- A list in another order. -/
theorem turned_perm (seed : Int) (ls : List Sp) : ((permI seed ls.length).map fun z => sg ls z.toNat).Perm ls := by
  have h := (perm_upto seed ls.length).map (fun z : Int => sg ls z.toNat)
  have e : (upto ls.length).map (fun z : Int => sg ls z.toNat) = ls := by
    refine List.ext_getElem? fun i => ?_
    rw [List.getElem?_map]
    unfold upto
    rw [List.getElem?_map]
    by_cases hi : i < ls.length
    · rw [List.getElem?_range hi, sg_at hi]
      rfl
    · rw [List.getElem?_eq_none (by simp; omega), List.getElem?_eq_none (by omega)]
      rfl
  rw [e] at h
  exact h
end Go.Proofs.Ytpcbfoddlpgdjaa
