/- More heaps at once. -/
import Derived.Test.YtpcbfoddlpgdjaaHpC
namespace Go.Proofs.Ytpcbfoddlpgdjaa
open Go.RowKit
theorem HpAt.newBest (w : World) (f : FuncId) (u : Value) : HpAt (w.alloc (.cells #[.slice none 0 0, fvA f, u] 61)) ⟨w.heap.size, 61, f, [u], none, 0, []⟩ :=
  ⟨Blk.new _ _ _, World.ownsRow_nil _ _ _ _, by intro h; cases h⟩
theorem HpAt.newQueue (w : World) (f : FuncId) : HpAt (w.alloc (.cells #[.slice none 0 0, fvA f] 63)) ⟨w.heap.size, 63, f, [], none, 0, []⟩ :=
  ⟨Blk.new _ _ _, World.ownsRow_nil _ _ _ _, by intro h; cases h⟩
theorem Hp.nil (ah : Sp → Sp → Bool) : Hp ah [] := fun j _ h => absurd h (Nat.not_lt_zero j)
/-- A best of one, opaque. -/
theorem best_new (m : Nat) (w w1 : World) (hw : w.alloc (.cells #[.slice none 0 0, fvA 26, .int .i64 ((m : Nat) : Int)] 61) = w1) :
    ∃ h : HR, h.hb = w.heap.size ∧ h.f = 26 ∧ h.rest = [.int .i64 ((m : Nat) : Int)] ∧ h.A = none ∧ h.L = [] ∧ HpAt w1 h :=
  ⟨⟨w.heap.size, 61, 26, [.int .i64 ((m : Nat) : Int)], none, 0, []⟩, rfl, rfl, rfl, rfl, rfl, by rw [← hw]; exact HpAt.newBest _ _ _⟩
/-- Offer, with the record's new state opaque. -/
def RetGb (m : Nat) (h : HR) (S : List Sp) (x : Sp) (w : World) (e : Ending) (w' : World) : Prop :=
  ∃ (r : Bool) (h' : HR), e = .returned (.bool r) ∧ HpAt w' h' ∧ h'.hb = h.hb ∧ h'.f = h.f ∧ h'.rest = h.rest ∧ Hp (fun a b => ahB b a) h'.L ∧ BI m (S ++ [x]) h'.L ∧ Tch (foot h) w w' ∧ (∀ k, foot h' k → foot h k ∨ w.heap.size ≤ k) ∧ ((0 < m ∧ (h.L.length < m ∨ ahB x (sg h.L 0) = true)) → r = true)
theorem b_offerG (m : Nat) (hm : m ≤ 4096) (h : HR) (S : List Sp) (x : Sp) (w : World) (H : HpAt w h) (hf : h.f = 26) (hr : h.rest = [.int .i64 ((m : Nat) : Int)]) (hH : Hp (fun a b => ahB b a) h.L) (hB : BI m S h.L) :
    Calls Try.prog 11 #[.pointer (some ⟨h.hb, 0, none⟩), spV x] w (RetGb m h S x w) := by
  refine (b_offerE m hm h S x w H hf hr hH hB).mono ?_
  rintro e w' ⟨r, A', c', L', rfl, h1, h2, h3, h4, h5, h6⟩
  refine ⟨r, { h with A := A', c := c', L := L' }, rfl, h1, rfl, rfl, rfl, h2, h3, h4, fun k hk => ?_, h6⟩
  rcases hk with q | q
  · exact .inl (.inl q)
  · rcases h5 with e | ⟨g, e, hg⟩
    · exact .inl (.inr (e.symm.trans q))
    · have e2 : some (⟨g, 0, none⟩ : Addr) = some ⟨k, 0, none⟩ := e.symm.trans q
      injection e2 with e2
      injection e2 with e2 _ _
      subst e2
      exact .inr hg
/-- Heaps that lie apart. -/
structure HsAt (w : World) (Bs : Nat → Prop) (hs : List HR) : Prop where
  at_ : ∀ (i : Nat) (h : HR), hs[i]? = some h → HpAt w h
  sep : ∀ (i j : Nat) (a b : HR), i ≠ j → hs[i]? = some a → hs[j]? = some b → ∀ k, foot a k → ¬ foot b k
  bs : ∀ (i : Nat) (h : HR), hs[i]? = some h → ∀ k, foot h k → Bs k
theorem HsAt.keep {w w' : World} {Bs S : Nat → Prop} {hs : List HR} (H : HsAt w Bs hs) (hT : Tch S w w') (hS : ∀ k, Bs k → ¬ S k) : HsAt w' Bs hs :=
  ⟨fun i h hi => (H.at_ i h hi).tch hT fun k hk => hS k (H.bs i h hi k hk), H.sep, H.bs⟩
theorem HsAt.below {w w' : World} {Bs : Nat → Prop} {hs : List HR} (H : HsAt w Bs hs) (hb : Below w.heap.size w w') : HsAt w' Bs hs := H.keep (Tch.of_below (S := fun _ => False) hb) (fun _ _ q => q)
theorem HsAt.more {w : World} {Bs Bs' : Nat → Prop} {hs : List HR} (H : HsAt w Bs hs) (hB : ∀ k, k < w.heap.size → Bs k → Bs' k) : HsAt w Bs' hs :=
  ⟨H.at_, H.sep, fun i h hi k hk => hB k ((H.at_ i h hi).foot_lt k hk) (H.bs i h hi k hk)⟩
theorem HsAt.upd {w w' : World} {Bs : Nat → Prop} {hs : List HR} {i : Nat} {h h' : HR} (H : HsAt w Bs hs) (hi : hs[i]? = some h) (h1 : HpAt w' h') (hT : Tch (foot h) w w') (hf : ∀ k, foot h' k → foot h k ∨ w.heap.size ≤ k) (hB : ∀ k, w.heap.size ≤ k → Bs k) : HsAt w' Bs (hs.set i h') := by
  have hil := (List.getElem?_eq_some_iff.1 hi).1
  have cases : ∀ j a, (hs.set i h')[j]? = some a → (j = i ∧ a = h') ∨ (j ≠ i ∧ hs[j]? = some a) := by
    intro j a hj
    by_cases e : i = j
    · subst e
      rw [List.getElem?_set_self hil] at hj
      injection hj with hj
      exact .inl ⟨rfl, hj.symm⟩
    · rw [List.getElem?_set_ne e] at hj
      exact .inr ⟨fun q => e q.symm, hj⟩
  have apart : ∀ j b, j ≠ i → hs[j]? = some b → ∀ k, foot h' k → ¬ foot b k := by
    intro j b hj hb k hk hbk
    rcases hf k hk with q | q
    · exact H.sep i j h b (fun e => hj e.symm) hi hb k q hbk
    · have := (H.at_ j b hb).foot_lt k hbk
      omega
  refine ⟨fun j a hj => ?_, fun j j' a b hne hj hj' k ha hb => ?_, fun j a hj k hk => ?_⟩
  · rcases cases j a hj with ⟨_, rfl⟩ | ⟨hne, hj⟩
    · exact h1
    · exact (H.at_ j a hj).tch hT fun k hk q => H.sep i j h a (fun e => hne e.symm) hi hj k q hk
  · rcases cases j a hj with ⟨rfl, rfl⟩ | ⟨n1, hj⟩
    · rcases cases j' b hj' with ⟨rfl, _⟩ | ⟨n2, hj'⟩
      · exact hne rfl
      · exact apart j' b n2 hj' k ha hb
    · rcases cases j' b hj' with ⟨e2, e3⟩ | ⟨n2, hj'⟩
      · rw [e3] at hb
        exact apart j a n1 hj k hb ha
      · exact H.sep j j' a b hne hj hj' k ha hb
  · rcases cases j a hj with ⟨_, rfl⟩ | ⟨_, hj⟩
    · rcases hf k hk with q | q
      · exact H.bs i h hi k q
      · exact hB k q
    · exact H.bs j a hj k hk
theorem HsAt.add {w w' : World} {Bs : Nat → Prop} {hs : List HR} {h : HR} (H : HsAt w Bs hs) (hb : Below w.heap.size w w') (h1 : HpAt w' h) (hf : ∀ k, foot h k → w.heap.size ≤ k) (hB : ∀ k, w.heap.size ≤ k → Bs k) : HsAt w' Bs (hs ++ [h]) := by
  have cases : ∀ j a, (hs ++ [h])[j]? = some a → (j = hs.length ∧ a = h) ∨ (j < hs.length ∧ hs[j]? = some a) := by
    intro j a hj
    by_cases e : j < hs.length
    · rw [List.getElem?_append_left e] at hj
      exact .inr ⟨e, hj⟩
    · rw [List.getElem?_append_right (by omega)] at hj
      have h0 : j - hs.length = 0 := by
        by_cases h0 : j - hs.length = 0
        · exact h0
        · rw [List.getElem?_eq_none (by simp; omega)] at hj; cases hj
      rw [h0] at hj
      injection hj with hj
      exact .inl ⟨by omega, hj.symm⟩
  have H' := H.below hb
  refine ⟨fun j a hj => ?_, fun j j' a b hne hj hj' k ha hbk => ?_, fun j a hj k hk => ?_⟩
  · rcases cases j a hj with ⟨_, rfl⟩ | ⟨_, hj⟩
    · exact h1
    · exact H'.at_ j a hj
  · rcases cases j a hj with ⟨e1, rfl⟩ | ⟨n1, hj⟩
    · rcases cases j' b hj' with ⟨e2, _⟩ | ⟨n2, hj'⟩
      · omega
      · have h3 := (H.at_ j' b hj').foot_lt k hbk
        have h4 := hf k ha
        omega
    · rcases cases j' b hj' with ⟨e2, e3⟩ | ⟨n2, hj'⟩
      · have h3 := (H.at_ j a hj).foot_lt k ha
        rw [e3] at hbk
        have h4 := hf k hbk
        omega
      · exact H.sep j j' a b hne hj hj' k ha hbk
  · rcases cases j a hj with ⟨_, rfl⟩ | ⟨_, hj⟩
    · exact hB k (hf k hk)
    · exact H.bs j a hj k hk
theorem HsAt.nil_ (w : World) (Bs : Nat → Prop) : HsAt w Bs [] := ⟨fun i h hi => by simp at hi, fun i j a b _ hi => by simp at hi, fun i h hi => by simp at hi⟩
/-- The best of some, in one place. -/
def BstI (m hb : Nat) (S : List Sp) (h : HR) : Prop := h.hb = hb ∧ h.f = 26 ∧ h.rest = [.int .i64 ((m : Nat) : Int)] ∧ Hp (fun a b => ahB b a) h.L ∧ BI m S h.L
theorem b_offerH (m : Nat) (hm : m ≤ 4096) {Bs : Nat → Prop} {hs : List HR} {i hb : Nat} {h : HR} (S : List Sp) (x : Sp) (w : World) (H : HsAt w Bs hs) (hi : hs[i]? = some h) (hb_ : BstI m hb S h) (hB : ∀ k, w.heap.size ≤ k → Bs k) :
    Calls Try.prog 11 #[.pointer (some ⟨hb, 0, none⟩), spV x] w (fun e w' => ∃ (r : Bool) (h' : HR), e = .returned (.bool r) ∧ HsAt w' Bs (hs.set i h') ∧ BstI m hb (S ++ [x]) h' ∧ Tch Bs w w') := by
  obtain ⟨q1, q2, q3, q4, q5⟩ := hb_
  have := b_offerG m hm h S x w (H.at_ i h hi) q2 q3 q4 q5
  rw [q1] at this
  refine this.mono ?_
  rintro e w' ⟨r, h', rfl, h1, p1, p2, p3, p4, p5, p6, p7, _⟩
  exact ⟨r, h', rfl, H.upd hi h1 p6 p7 hB, ⟨p1.trans q1, p2.trans q2, p3.trans q3, p4, p5⟩, p6.mono fun k _ hk => H.bs i h hi k hk⟩
theorem b_listH (m : Nat) (hm : m ≤ 4096) {Bs : Nat → Prop} {hs : List HR} {i hb : Nat} {h : HR} {S : List Sp} (w : World) (H : HsAt w Bs hs) (hi : hs[i]? = some h) (hb_ : BstI m hb S h) :
    Calls Try.prog 13 #[.pointer (some ⟨hb, 0, none⟩)] w (RetO ((sortSp S).take m) w) := by
  have := b_list h w (H.at_ i h hi) (by rw [hb_.2.2.2.2.len]; omega)
  rw [hb_.1, hb_.2.2.2.2.sort] at this
  exact this
theorem b_offerK (m : Nat) (hm : m ≤ 4096) {Bs : Nat → Prop} {hs : List HR} {i hb : Nat} {h : HR} (S : List Sp) (x : Sp) (w : World) (H : HsAt w Bs hs) (hi : hs[i]? = some h) (hb_ : BstI m hb S h) (hB : ∀ k, w.heap.size ≤ k → Bs k) :
    Calls Try.prog 11 #[.pointer (some ⟨hb, 0, none⟩), spV x] w (fun e w' => ∃ (r : Bool) (h' : HR), e = .returned (.bool r) ∧ HsAt w' Bs (hs.set i h') ∧ BstI m hb (S ++ [x]) h' ∧ Tch (foot h) w w' ∧ ∀ k, foot h' k → foot h k ∨ w.heap.size ≤ k) := by
  obtain ⟨q1, q2, q3, q4, q5⟩ := hb_
  have := b_offerG m hm h S x w (H.at_ i h hi) q2 q3 q4 q5
  rw [q1] at this
  refine this.mono ?_
  rintro e w' ⟨r, h', rfl, h1, p1, p2, p3, p4, p5, p6, p7, _⟩
  exact ⟨r, h', rfl, H.upd hi h1 p6 p7 hB, ⟨p1.trans q1, p2.trans q2, p3.trans q3, p4, p5⟩, p6, p7⟩
/-- A queue, in one place. -/
def QueI (hb : Nat) (S : List Sp) (h : HR) : Prop := h.hb = hb ∧ h.f = 21 ∧ Hp ahB h.L ∧ h.L.Perm S
theorem que_new (w w1 : World) (hw : w.alloc (.cells #[.slice none 0 0, fvA 21] 63) = w1) : ∃ h : HR, QueI w.heap.size [] h ∧ h.A = none ∧ HpAt w1 h :=
  ⟨⟨w.heap.size, 63, 21, [], none, 0, []⟩, ⟨rfl, rfl, Hp.nil _, .refl _⟩, rfl, by rw [← hw]; exact HpAt.newQueue _ _⟩
theorem q_pushH {Bs : Nat → Prop} {hs : List HR} {i hb : Nat} {h : HR} (S : List Sp) (x : Sp) (w : World) (H : HsAt w Bs hs) (hi : hs[i]? = some h) (hb_ : QueI hb S h) (hn : S.length < 1048576) (hB : ∀ k, w.heap.size ≤ k → Bs k) :
    Calls Try.prog 12 #[.pointer (some ⟨hb, 0, none⟩), spV x] w (fun e w' => e = .returned (.tuple #[]) ∧ ∃ h' : HR, HsAt w' Bs (hs.set i h') ∧ QueI hb (S ++ [x]) h' ∧ Tch (foot h) w w') := by
  obtain ⟨q1, q2, q3, q4⟩ := hb_
  have := q_pushE h x w (H.at_ i h hi) q2 q3 (by rw [q4.length_eq]; exact hn)
  rw [q1] at this
  refine this.mono ?_
  rintro e w' ⟨rfl, A', c', L', h1, h2, h3, h4, h5⟩
  rw [← q1] at h1
  refine ⟨rfl, { h with A := A', c := c', L := L' }, H.upd hi h1 h4 (fun k hk => ?_) hB, ⟨q1, q2, h2, h3.trans (List.Perm.append_right _ q4)⟩, h4⟩
  rcases hk with q | q
  · exact .inl (.inl q)
  · rcases h5 with e | ⟨g, e, hg⟩
    · exact .inl (.inr (e.symm.trans q))
    · have e2 : some (⟨g, 0, none⟩ : Addr) = some ⟨k, 0, none⟩ := e.symm.trans q
      injection e2 with e2
      injection e2 with e2 _ _
      subst e2
      exact .inr hg
/-- A step of one heap that stays where it is. -/
theorem HsAt.stay {w w' : World} {Bs : Nat → Prop} {hs : List HR} {i : Nat} {h h' : HR} (H : HsAt w Bs hs) (hi : hs[i]? = some h) (h1 : HpAt w' h') (hT : Tch (foot h) w w') (hf : ∀ k, foot h' k → foot h k) : HsAt w' Bs (hs.set i h') := by
  have hil := (List.getElem?_eq_some_iff.1 hi).1
  have h2 : HsAt w' (fun k => Bs k ∨ w.heap.size ≤ k) (hs.set i h') := (H.more (Bs' := fun k => Bs k ∨ w.heap.size ≤ k) (fun _ _ q => .inl q)).upd hi h1 hT (fun k hk => .inl (hf k hk)) (fun k hk => .inr hk)
  refine ⟨h2.at_, h2.sep, fun j a hj k hk => ?_⟩
  by_cases e : i = j
  · subst e
    rw [List.getElem?_set_self hil] at hj
    injection hj with hj
    subst hj
    exact H.bs i h hi k (hf k hk)
  · rw [List.getElem?_set_ne e] at hj
    exact H.bs j a hj k hk
theorem q_popH {Bs : Nat → Prop} {hs : List HR} {i hb : Nat} {h : HR} {S told : List Sp} (w : World) (H : HsAt w Bs hs) (hi : hs[i]? = some h) (hb_ : QueI hb h.L h) (hq : QI S told h.L) (hn : h.L.length ≤ 1048576) (h0 : 0 < h.L.length) :
    Calls Try.prog 14 #[.pointer (some ⟨hb, 0, none⟩)] w (fun e w' => ∃ (x : Sp) (h' : HR), e = .returned (.tuple #[spV x, .bool true]) ∧ HsAt w' Bs (hs.set i h') ∧ QueI hb h'.L h' ∧ QI S (told ++ [x]) h'.L ∧ h'.L.length + 1 = h.L.length ∧ Tch (foot h) w w') := by
  obtain ⟨q1, q2, q3, q4⟩ := hb_
  have := q_popE h w (H.at_ i h hi) q2 q3 hn h0
  rw [q1] at this
  refine this.mono ?_
  rintro e w' ⟨L', rfl, h1, h2, h3, h4⟩
  rw [← q1] at h1
  refine ⟨_, { h with L := L' }, rfl, H.stay hi h1 h4 (fun k hk => hk), ⟨q1, q2, h3, .refl _⟩, hq.pop (fun b hb => q3.head tot_ahB hb) h2, ?_, h4⟩
  have := h2.length_eq
  simpa using this
end Go.Proofs.Ytpcbfoddlpgdjaa
