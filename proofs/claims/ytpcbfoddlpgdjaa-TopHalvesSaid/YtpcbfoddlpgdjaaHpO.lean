/- Lists that are sorted and may be appended to; a queue among heaps. -/
import Derived.Test.YtpcbfoddlpgdjaaHpT
namespace Go.Proofs.Ytpcbfoddlpgdjaa
open Go.RowKit Go.Shelf Go.Sort
theorem sort_blk {w : World} {g t : Nat} {cur : Array Value} (h : Blk w g t cur) (o n : Nat) (d : Array Sp) (os : Array Obj) : Blk (sortWorldK spL 3 w g o n d os) g t (putCells id o (flatK spL 3 d) cur) := by
  have hlt := h.lt
  unfold sortWorldK putRowK putRow
  show (((Go.Sort.ahead w n).heap.modify g (onCells (putCells id o (flatK spL 3 d)))) ++ os)[g]? = _
  rw [Array.getElem?_append_left (by rw [Array.size_modify]; exact hlt), Array.getElem?_modify, if_pos rfl]
  show (w.heap[g]?).map _ = _
  rw [h]
  rfl
/-- A row of the call's own, sorted: it is its own still. -/
theorem sp_sortFuncO (A : Option Addr) (n c : Nat) (l : List Sp) (w : World) (B : Nat) (ho : w.ownsRow B 35 3 (.slice A n c) n (flatS l)) (hl : l.length = n) (hB : B ≤ w.heap.size) (hn : n ≤ 2097152) :
    Calls Try.prog 49 #[.slice A n c, .func (.func 37) #[] #[]] w fun e w' => e = .returned (.tuple #[]) ∧ w'.ownsRow B 35 3 (.slice A n c) n (flatS (sortSp l)) ∧ Below B w w' := by
  rcases Nat.eq_zero_or_pos n with h0 | h0
  · subst h0
    have hl0 : l = [] := List.eq_nil_of_length_eq_zero hl
    subst hl0
    refine (sort_none A c _ w).mono ?_
    rintro e w' ⟨rfl, rfl⟩
    exact ⟨rfl, by have e : sortSp [] = [] := by simp [sortSp]
                   rw [e]; exact ho, Below.refl _ _⟩
  · rcases ho.2 with ⟨_, e0⟩ | ⟨g, cap, cur, ev, hg, hh, k1, k2, k3, ht⟩
    · omega
    · injection ev with eA e1 e2
      subst eA e2
      have hb : Blk w g 35 cur := hh
      have hH : HoldsK spL 3 w g 0 l.toArray := holds_own (fun j u hu => by
        rw [hb.cell, ← Array.getElem?_toList]
        have hjl : j < (flatS l).length := (List.getElem?_eq_some_iff.1 hu).1
        rw [← ht, List.getElem?_take] at hu
        split at hu
        · exact hu
        · cases hu) (fun j => hb.frozen j)
      have e3 : l.toArray.size = n := by simpa using hl
      have H := AnyQ.slices_SortFunc sortSpot 3 aggSp sizeSp spL spL_len spL_one plI sp_swo 37 #[] g 0 c l.toArray w (enters_of Try.func37 (by kernel_rfl) rfl) (sp_lays g 0 _ w) hH hb.lt (by rw [e3]; omega)
      rw [e3] at H
      refine H.mono ?_
      rintro e w' ⟨rfl, d', q, os, hp, hso, rfl⟩
      rw [← e3] at hp hso
      obtain rfl : d' = (sortSp l).toArray := by
        have q : d'.toList = sortSp l := sorted_unique_holds sp_swo sp_total l.toArray d' hp hso
        rw [← q]
      refine ⟨rfl, ?_, below_sortWorld (Below.refl _ _) hg hB 0 q _ os⟩
      have hs : (sortSp l).toArray.size = l.toArray.size := by simp [sortSp_len]
      have h2 := holdsK_sortWorldK spL 3 w g 0 q l.toArray (sortSp l).toArray os hb.lt hH hs
      have h3 := holds_spAt h2 (lt_sortWorldK spL 3 w g 0 q (sortSp l).toArray os hb.lt)
      rw [sortSp_len, hl] at h3
      have hb2 := sort_blk hb 0 q (sortSp l).toArray os
      refine own_of_held ⟨_, hb2, by rw [← k3]; simp [putCells], fun i x hi j u hu => ?_⟩ (by rw [sortSp_len, hl]) k1 k2 hg
      obtain ⟨b, o, e, _, hc⟩ := h3.2.2 h0
      injection e with e; injection e with e1 e2 _
      subst e1 e2
      have := hc i (spL x) (by rw [List.getElem?_map, hi]; rfl) j u hu
      rw [Nat.zero_add, hb2.cell] at this
      exact this
set_option maxRecDepth 100000 in
theorem rank_sortO (A : Option Addr) (n c : Nat) (l : List Sp) (w : World) (hg : SpAt w w.heap.size A n l) (hA : A = none → n = 0 ∧ c = 0) (hn : n ≤ 2097152) :
    Calls Try.prog 31 #[.slice A n c] w (fun e w' => ∃ A' c', e = .returned (.slice A' n c') ∧ w'.ownsRow w.heap.size 35 3 (.slice A' n c') n (flatS (sortSp l)) ∧ Below w.heap.size w w') := by
  have HC := Lib.hid (sp_clone A n c l w hg hA hn)
  have HL := Lib.hid hg.len
  have HN := Lib.hid hn
  clear hg hA hn
  go_enter Try.func31, Try.ntmps31
  go_wp2_with (first
    | (go_at_call 48; refine HC.out.mono ?_; rintro e w1 ⟨A', c', rfl, ho, hb⟩; have HO := Lib.hid ho; have HB := Lib.hid hb; clear ho hb)
    | (go_at_call 49; refine (sp_sortFuncO A' n c' l w1 w.heap.size HO.out HL.out HB.out.size HN.out).mono ?_; rintro e w2 ⟨rfl, hs, hb2⟩; have HS := Lib.hid hs; have HB2 := Lib.hid hb2; clear hs hb2))
  go_ret
  exact ⟨A', c', rfl, HS.out, HB.out.trans HB2.out⟩
set_option maxRecDepth 100000 in
set_option maxHeartbeats 4000000 in
theorem b_listO (h : HR) (w : World) (H : HpAt w h) (hn : h.L.length ≤ 1048576) : Calls Try.prog 13 #[.pointer (some ⟨h.hb, 0, none⟩)] w (fun e w' => ∃ A' c', e = .returned (.slice A' h.L.length c') ∧ w'.ownsRow w.heap.size 35 3 (.slice A' h.L.length c') h.L.length (flatS (sortSp h.L)) ∧ Below w.heap.size w w') := by
  have c0 := H.cell0
  obtain ⟨k1, k2⟩ := own_spAt H.own rfl
  have HS := Lib.hid (rank_sortO h.A h.L.length h.c h.L w k1 (fun e => by
    rcases H.row with ⟨_, q1, q2⟩ | ⟨g, q, _⟩
    · exact ⟨by rw [q1]; rfl, q2⟩
    · rw [q] at e; cases e) (by omega))
  clear H k1 k2 hn
  go_enter Try.func13, Try.ntmps13
  go_wp2_with (go_at_call 31; (with_reducible refine HS.out.mono ?_); rintro e w1 ⟨A', c', rfl, hs, hb⟩; replace hs := Lib.hid hs; replace hb := Lib.hid hb)
  go_ret
  exact ⟨A', c', rfl, hs.out, hb.out⟩
set_option maxRecDepth 100000 in
/-- 'append(x, y...)', x a row of the call's own. -/
theorem wpList_appS {ops : Array Oper} {rest : List Oper} {o : Oper} {a : Act} {Q : Exit → Act → World → Prop} (hgd : o.guard = none) (s x : Operand)
    (ho : o.op = .call { callee := .builtin .append, args := #[s, x], argTypes := #[25, 25] })
    (wr : World) (base : Nat) (v : Value) (n0 : Nat) (l0 : List Sp) (hs : a.eval s = v) (hown : wr.ownsRow base 35 3 v n0 (flatS l0))
    (A : Option Addr) (n c : Nat) (l : List Sp) (B : Nat) (hx : a.eval x = .slice A n c) (hl : SpAt wr B A n l) (hA : A = none → n = 0 ∧ c = 0) (hn0 : n0 ≤ 1048576) (hn : n ≤ 1048576) (hbase : base ≤ wr.heap.size)
    (h : ∀ A' c' w', w'.ownsRow base 35 3 (.slice A' (n0 + n) c') (n0 + n) (flatS (l0 ++ l)) → Below base wr w' → wpList Try.prog ops Q rest (a.put o.dst (.slice A' (n0 + n) c')) w') :
    wpList Try.prog ops Q (o :: rest) a wr := by
  obtain ⟨i, hi, hz, hz1, hz2⟩ := info_parts info_spotK
  cases A with
  | none =>
    obtain ⟨rfl, rfl⟩ := hA rfl
    have e0 : l = [] := List.eq_nil_of_length_eq_zero hl.len
    subst e0
    refine wpList_append_own_none hgd s x 25 ho base 35 i 3 Try.underlying25 hi v n0 (flatS l0) hs hown hx ?_
    rcases hown.2 with ⟨rfl, e1⟩ | ⟨g, cap, cur, rfl, _⟩
    · subst e1
      rw [List.append_nil] at h
      exact h none 0 wr hown (Below.refl _ _)
    · rw [List.append_nil] at h
      exact h _ cap wr hown (Below.refl _ _)
  | some ad =>
    obtain ⟨e1, e2⟩ := hl.flat
    by_cases h0 : 0 < n
    · obtain ⟨b, off, e, _, hc⟩ := e2 h0
      injection e with e
      subst e
      refine wpList_append_own wr hgd s x 25 ho base 35 i _ 3 24 Try.underlying25 hi hz hz1 hz2 rfl (by decide) v n0 (flatS l0) hs hown ⟨b, off, none⟩ n c (flatS l) hx e1 (fun j u hu => by rw [Addr.add_lit]; exact hc j u hu) (flatS_one l) (by unfold maxLen; omega) (by omega) hbase ?_
      intro v' w' ho' hg hnn
      rw [← flatS_appC] at ho'
      have hb' : Below base wr w' := (Below.refl base wr).grown hg hbase (fun k hk => (hown.lt k hk).1)
      rcases ho'.2 with ⟨rfl, e0⟩ | ⟨g, cap, cur, rfl, _⟩
      · omega
      · exact h _ cap w' ho' hb'
    · have hn' : n = 0 := by omega
      subst hn'
      have e0 : l = [] := List.eq_nil_of_length_eq_zero hl.len
      subst e0
      refine wpList_append_own wr hgd s x 25 ho base 35 i _ 3 24 Try.underlying25 hi hz hz1 hz2 rfl (by decide) v n0 (flatS l0) hs hown ad 0 c [] hx rfl (fun j u hu => by simp at hu) (fun u hu => by simp at hu) (by unfold maxLen; omega) (by omega) hbase ?_
      intro v' w' ho' hg hnn
      have hb' : Below base wr w' := (Below.refl base wr).grown hg hbase (fun k hk => (hown.lt k hk).1)
      rw [List.append_nil] at ho' h
      rcases ho'.2 with ⟨rfl, e0⟩ | ⟨g, cap, cur, rfl, _⟩
      · have e1 : n0 = 0 := by omega
        subst e1
        exact h none 0 w' ho' hb'
      · exact h _ cap w' ho' hb'
theorem b_offerK (m : Nat) (hm : m ≤ 4096) {Bs : Nat → Prop} {hs : List HR} {i hb : Nat} {h : HR} (S : List Sp) (x : Sp) (w : World) (H : HsAt w Bs hs) (hi : hs[i]? = some h) (hb_ : BstI m hb S h) (hB : ∀ k, w.heap.size ≤ k → Bs k) :
    Calls Try.prog 11 #[.pointer (some ⟨hb, 0, none⟩), spV x] w (fun e w' => ∃ (r : Bool) (h' : HR), e = .returned (.bool r) ∧ HsAt w' Bs (hs.set i h') ∧ BstI m hb (S ++ [x]) h' ∧ Tch (foot h) w w' ∧ ∀ k, foot h' k → foot h k ∨ w.heap.size ≤ k) := by
  obtain ⟨q1, q2, q3, q4, q5⟩ := hb_
  have := b_offerG m hm h S x w (H.at_ i h hi) q2 q3 q4 q5
  rw [q1] at this
  refine this.mono ?_
  rintro e w' ⟨r, h', rfl, h1, p1, p2, p3, p4, p5, p6, p7, _⟩
  exact ⟨r, h', rfl, H.upd hi h1 p6 p7 hB, ⟨p1.trans q1, p2.trans q2, p3.trans q3, p4, p5⟩, p6, p7⟩
/-- A queue, in one place. -/
def QueI (hb : Nat) (S : List Sp) (h : HR) : Prop := h.hb = hb ∧ h.f = 21 ∧ Hp ahB h.L ∧ h.L.Perm S
theorem que_new (w w1 : World) (hw : w.alloc (.cells #[.slice none 0 0, fvA 21] 63) = w1) : ∃ h : HR, QueI w.heap.size [] h ∧ h.A = none ∧ HpAt w1 h :=
  ⟨⟨w.heap.size, 63, 21, [], none, 0, []⟩, ⟨rfl, rfl, Hp.nil _, .refl _⟩, rfl, by rw [← hw]; exact HpAt.newQueue _ _⟩
theorem q_pushH {Bs : Nat → Prop} {hs : List HR} {i hb : Nat} {h : HR} (S : List Sp) (x : Sp) (w : World) (H : HsAt w Bs hs) (hi : hs[i]? = some h) (hb_ : QueI hb S h) (hn : S.length < 1048576) (hB : ∀ k, w.heap.size ≤ k → Bs k) :
    Calls Try.prog 12 #[.pointer (some ⟨hb, 0, none⟩), spV x] w (fun e w' => e = .returned (.tuple #[]) ∧ ∃ h' : HR, HsAt w' Bs (hs.set i h') ∧ QueI hb (S ++ [x]) h' ∧ Tch (foot h) w w') := by
  obtain ⟨q1, q2, q3, q4⟩ := hb_
  have := q_pushE h x w (H.at_ i h hi) q2 q3 (by rw [q4.length_eq]; exact hn)
  rw [q1] at this
  refine this.mono ?_
  rintro e w' ⟨rfl, A', c', L', h1, h2, h3, h4, h5⟩
  rw [← q1] at h1
  refine ⟨rfl, { h with A := A', c := c', L := L' }, H.upd hi h1 h4 (fun k hk => ?_) hB, ⟨q1, q2, h2, h3.trans (List.Perm.append_right _ q4)⟩, h4⟩
  rcases hk with q | q
  · exact .inl (.inl q)
  · rcases h5 with e | ⟨g, e, hg⟩
    · exact .inl (.inr (e.symm.trans q))
    · have e2 : some (⟨g, 0, none⟩ : Addr) = some ⟨k, 0, none⟩ := e.symm.trans q
      injection e2 with e2
      injection e2 with e2 _ _
      subst e2
      exact .inr hg
/-- A step of one heap that stays where it is. -/
theorem HsAt.stay {w w' : World} {Bs : Nat → Prop} {hs : List HR} {i : Nat} {h h' : HR} (H : HsAt w Bs hs) (hi : hs[i]? = some h) (h1 : HpAt w' h') (hT : Tch (foot h) w w') (hf : ∀ k, foot h' k → foot h k) : HsAt w' Bs (hs.set i h') := by
  have hil := (List.getElem?_eq_some_iff.1 hi).1
  have h2 : HsAt w' (fun k => Bs k ∨ w.heap.size ≤ k) (hs.set i h') := (H.more (Bs' := fun k => Bs k ∨ w.heap.size ≤ k) (fun _ _ q => .inl q)).upd hi h1 hT (fun k hk => .inl (hf k hk)) (fun k hk => .inr hk)
  refine ⟨h2.at_, h2.sep, fun j a hj k hk => ?_⟩
  by_cases e : i = j
  · subst e
    rw [List.getElem?_set_self hil] at hj
    injection hj with hj
    subst hj
    exact H.bs i h hi k (hf k hk)
  · rw [List.getElem?_set_ne e] at hj
    exact H.bs j a hj k hk
theorem q_popH {Bs : Nat → Prop} {hs : List HR} {i hb : Nat} {h : HR} {S told : List Sp} (w : World) (H : HsAt w Bs hs) (hi : hs[i]? = some h) (hb_ : QueI hb h.L h) (hq : QI S told h.L) (hn : h.L.length ≤ 1048576) (h0 : 0 < h.L.length) :
    Calls Try.prog 14 #[.pointer (some ⟨hb, 0, none⟩)] w (fun e w' => ∃ (x : Sp) (h' : HR), e = .returned (.tuple #[spV x, .bool true]) ∧ HsAt w' Bs (hs.set i h') ∧ QueI hb h'.L h' ∧ QI S (told ++ [x]) h'.L ∧ h'.L.length + 1 = h.L.length ∧ Tch (foot h) w w') := by
  obtain ⟨q1, q2, q3, q4⟩ := hb_
  have := q_popE h w (H.at_ i h hi) q2 q3 hn h0
  rw [q1] at this
  refine this.mono ?_
  rintro e w' ⟨L', rfl, h1, h2, h3, h4⟩
  rw [← q1] at h1
  refine ⟨_, { h with L := L' }, rfl, H.stay hi h1 h4 (fun k hk => hk), ⟨q1, q2, h3, .refl _⟩, hq.pop (fun b hb => q3.head tot_ahB hb) h2, ?_, h4⟩
  have := h2.length_eq
  simpa using this
end Go.Proofs.Ytpcbfoddlpgdjaa
