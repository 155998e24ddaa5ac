/- Lists of ints that begin anywhere in their row: append at the end, drop the first. -/
import Derived.Test.YtgcoecibhonfnaaEpS
import Derived.Test.YtgcoecibhonfnaaSub
import Derived.ArgAppend
namespace Go.Proofs.Ytgcoecibhonfnaa
open Go.RowKit
/-- A slice of ints that nothing else reads, from anywhere in its row on. -/
def OwnO (w : World) (base : Nat) (A : Option Addr) (n c : Nat) (xs : List Int) : Prop :=
  xs.length = n ∧ n ≤ c ∧ c ≤ maxLen ∧ (A = none → n = 0 ∧ c = 0) ∧
    ∀ a, A = some a → ∃ (b o : Nat) (cur : Array Value), a = ⟨b, o, none⟩ ∧ base ≤ b ∧ w.heap[b]? = some (.cells cur 3 (0, 0)) ∧ o + c ≤ cur.size ∧ ∀ k, k < n → cur[o + k]? = some (.int .i64 (ig xs k))
theorem OwnO.nil (w : World) (base : Nat) : OwnO w base none 0 0 [] := ⟨rfl, Nat.le_refl _, Nat.zero_le _, fun _ => ⟨rfl, rfl⟩, fun _ h => by cases h⟩
section
variable {w w' : World} {base n c : Nat} {A : Option Addr} {xs : List Int}
theorem OwnO.lt (h : OwnO w base A n c xs) {a : Addr} (ha : A = some a) : base ≤ a.block ∧ a.block < w.heap.size := by
  obtain ⟨b, o, cur, rfl, h1, h2, _⟩ := h.2.2.2.2 a ha
  exact ⟨h1, (Array.getElem?_eq_some_iff.1 h2).1⟩
theorem OwnO.keep (h : OwnO w base A n c xs) (hk : ∀ a, A = some a → w'.heap[a.block]? = w.heap[a.block]?) : OwnO w' base A n c xs := by
  refine ⟨h.1, h.2.1, h.2.2.1, h.2.2.2.1, fun a ha => ?_⟩
  obtain ⟨b, o, cur, rfl, h1, h2, h3⟩ := h.2.2.2.2 a ha
  exact ⟨b, o, cur, rfl, h1, (hk _ ha).trans h2, h3⟩
theorem OwnO.below (h : OwnO w base A n c xs) (hb : Below w.heap.size w w') : OwnO w' base A n c xs := h.keep fun _ ha => hb.block _ (h.lt ha).2
theorem OwnO.rd (h : OwnO w base A n c xs) : Rd w w.heap.size A n (xs.map (.int .i64)) := by
  refine ⟨by simpa using h.1, fun hn => ?_⟩
  cases A with
  | none => have := (h.2.2.2.1 rfl).1; omega
  | some a =>
    obtain ⟨b, o, cur, rfl, h1, h2, _, h4⟩ := h.2.2.2.2 a rfl
    refine ⟨b, o, rfl, (Array.getElem?_eq_some_iff.1 h2).1, fun k u hu => ?_⟩
    rw [cell_of_row w b (o + k) cur _ (0, 0) h2]
    have hk : k < xs.length := by have := (List.getElem?_eq_some_iff.1 hu).1; simpa using this
    rw [h4 k (by have := h.1; omega), ← hu, List.getElem?_map, List.getElem?_eq_getElem hk]
    simp [ig, List.getD_eq_getElem?_getD, List.getElem?_eq_getElem hk]
theorem OwnO.at_ (h : OwnO w base A n c xs) {k : Nat} (hk : k < n) : ∃ b o, A = some ⟨b, o, none⟩ ∧ w.cell? ⟨b, o + k, none⟩ = some (.int .i64 (ig xs k)) := by
  obtain ⟨b, o, e, _, hc⟩ := h.rd.atI hk
  exact ⟨b, o, e, hc⟩
theorem OwnO.drop (h : OwnO w base A n c xs) (hn : 0 < n) : OwnO w base (subA A 1 c) (n - 1) (c - 1) (xs.drop 1) := by
  obtain ⟨h1, h2, h3, h4, h5⟩ := h
  refine ⟨by simp; omega, by omega, by omega, fun e => ?_, fun a ha => ?_⟩
  · unfold subA at e
    split at e
    · have := h4 e; omega
    · cases A with
      | none => have := h4 rfl; omega
      | some a => cases e
  · unfold subA at ha
    split at ha
    · obtain ⟨b, o, cur, q1, q2, q3, q4, q5⟩ := h5 a ha
      exact ⟨b, o, cur, q1, q2, q3, by omega, fun k hk => by omega⟩
    · cases A with
      | none => cases ha
      | some a' =>
        obtain ⟨b, o, cur, rfl, q2, q3, q4, q5⟩ := h5 a' rfl
        injection ha with ha
        replace ha : Addr.add ⟨b, o, none⟩ 1 = a := ha
        rw [Addr.add_lit] at ha
        refine ⟨b, o + 1, cur, ha.symm, q2, q3, by omega, fun k hk => ?_⟩
        rw [Nat.add_assoc, ig_drop]
        exact q5 (1 + k) (by omega)
theorem subA_block {a : Addr} (h : subA A 1 c = some a) : ∃ a', A = some a' ∧ a.block = a'.block := by
  unfold subA at h
  split at h
  · exact ⟨a, h, rfl⟩
  · cases A with
    | none => cases h
    | some a' =>
      injection h with h
      refine ⟨a', rfl, ?_⟩
      rw [← h]
      unfold Addr.add
      split <;> rfl
end
theorem wpList_pushO {ops : Array Oper} {rest : List Oper} {o : Oper} {a : Act} {Q : Exit → Act → World → Prop} (hgd : o.guard = none) (s x : Operand)
    (ho : o.op = .call { callee := .builtin .append, args := #[s, x], argTypes := #[28, 28] })
    (W : World) (base : Nat) (A : Option Addr) (n c : Nat) (xs : List Int) (u : Int) (hs : a.eval s = .slice A n c) (hown : OwnO W base A n c xs)
    (hx : a.eval x = .slice (some ⟨W.heap.size, 0, none⟩) 1 1) (hn : n ≤ 1048576) (hbase : base ≤ W.heap.size)
    (h : ∀ A' c' w', OwnO w' base A' (n + 1) c' (xs ++ [u]) → (∀ a', A' = some a' → (∃ a0, A = some a0 ∧ a0.block = a'.block) ∨ W.heap.size ≤ a'.block) → Below base W w' → (∀ k, k < W.heap.size → (∀ a0, A = some a0 → a0.block ≠ k) → w'.heap[k]? = W.heap[k]?) → wpList Try.prog ops Q rest (a.put o.dst (.slice A' (n + 1) c')) w') :
    wpList Try.prog ops Q (o :: rest) a (W.alloc (.cells #[.int .i64 u] 3)) := by
  obtain ⟨ii, iz, ii1, iz1, ii2, ii3, iz2⟩ := int_info
  have hb0 : Below W.heap.size W (W.alloc (.cells #[.int .i64 u] 3)) := (Below.refl _ W).alloc (Nat.le_refl _) _
  have eS : (W.alloc (.cells #[.int .i64 u] 3)).heap.size = W.heap.size + 1 := by simp only [World.alloc, Array.size_push]
  have hown1 := hown.below hb0
  have hcell := cell_one_new W (.int .i64 u) 3
  by_cases hc : n + 1 ≤ c
  · cases hA : A with
    | none => have := hown.2.2.2.1 hA; omega
    | some a0 =>
      obtain ⟨b, off, cur, rfl, h1, h2, h3, h4⟩ := hown1.2.2.2.2 a0 hA
      have hbl := (Array.getElem?_eq_some_iff.1 h2).1
      have hlt : b < W.heap.size := (hown.lt hA).2
      have hrun := run_append_room_cells (P := Try.prog) (W.alloc (.cells #[.int .i64 u] 3)) 28 o.type 3 ii Try.underlying28 ii1 b off n c ⟨W.heap.size, 0, none⟩ 1 1 [.int .i64 u] (by rw [ii2]; rfl) hcell (by intro v hv; simp at hv; subst hv; rfl) hc
        (fun j hj => by
          rw [ii2, Nat.mul_one]
          have : j = 0 := by simpa using hj
          subst this
          rw [cell_of_row _ b _ cur _ (0, 0) h2, Nat.add_zero, Array.getElem?_eq_getElem (by omega)]; rfl)
        (fun j hj => frozen_of_row _ b _ cur _ h2)
      rw [ii2, Nat.mul_one] at hrun
      refine wpList_plain hgd fun K hK => ?_
      rw [hA] at hs
      unfold Oper.wp
      simp [execOp, ho, resolve, invoke, builtin, hs, hx, hrun, Result.andThen]
      refine hK _ _ (h _ _ _ ?_ ?_ ?_ ?_)
      · refine ⟨by simp [hown.1], by omega, hown.2.2.1, (fun e => by cases e), fun a' ha' => ?_⟩
        injection ha' with ha'
        refine ⟨b, off, cur.setIfInBounds (off + n) (.int .i64 u), ha'.symm, h1, heap_setCell_same _ b (off + n) cur _ _ h2, by simpa using h3, fun k hk => ?_⟩
        rw [Array.getElem?_setIfInBounds]
        split
        · rename_i e
          have : k = n := by omega
          subst this
          rw [if_pos (by omega), ig_append_right (by rw [hown.1]; exact Nat.le_refl _), hown.1, Nat.sub_self]; rfl
        · rename_i e
          have : k < n := by omega
          rw [ig_append_left (by rw [hown.1]; exact this)]
          exact h4 k this
      · intro a' ha'
        injection ha' with ha'
        rw [← ha', hA]
        exact Or.inl ⟨_, rfl, rfl⟩
      · exact (hb0.mono hbase).setCell (p := ⟨b, off + n, none⟩) h1 _
      · intro k hk hne
        refine (Below.heap_setCell _ ⟨b, off + n, none⟩ _ k ?_).trans (hb0.block k hk)
        exact fun e => hne _ hA e.symm
  · have hcn : c = n := by have := hown.2.1; omega
    refine wpList_append_grows (W.alloc (.cells #[.int .i64 u] 3)) hgd s x 28 ho 3 ii iz 1 8 Try.underlying28 ii1 iz1 ii2 ii3 iz2 (by decide) A n c (xs.map (.int .i64)) hs (fun e => by have := hown.2.2.2.1 e; exact this) (by simp [hown.1])
      (fun b hb j v hv => ?_) ⟨W.heap.size, 0, none⟩ 1 1 [.int .i64 u] hx rfl hcell (by intro v hv; simp at hv; subst hv; rfl) (by omega) (by unfold maxLen; omega) (by omega) ?_
    · have hj : j < n := by
        have := (List.getElem?_eq_some_iff.1 hv).1
        rw [List.length_map, hown.1] at this
        exact this
      obtain ⟨b', o', e, hcl⟩ := hown1.at_ hj
      rw [hb] at e
      injection e with e
      rw [e, Addr.add_lit, hcl, ← hv, List.getElem?_map, List.getElem?_eq_getElem (by rw [hown.1]; exact hj)]
      simp [ig, List.getD_eq_getElem?_getD, List.getElem?_eq_getElem (show j < xs.length by rw [hown.1]; exact hj)]
    · intro v' w' ho' hg'
      have ho2 : w'.ownsRow (W.heap.size + 1) 3 1 v' (n + 1) ((xs ++ [u]).map (.int .i64)) := by rw [← eS]; simpa using ho'
      rcases ho2.2 with ⟨_, q⟩ | ⟨g, cap, cur, rfl, q2, q3, q4, q5, q6, q7⟩
      · omega
      · refine h (some ⟨g, 0, none⟩) cap w' ⟨by simp [hown.1], q4, q5, (fun e => by cases e), fun a' ha' => ?_⟩ ?_ ((hb0.mono hbase).grown hg' (Nat.le_trans hbase hb0.size) fun k hk => by cases hk) (fun k hk _ => (hg'.block k (by omega) (by simp)).trans (hb0.block k hk))
        · injection ha' with ha'
          refine ⟨g, 0, cur, ha'.symm, by omega, q3, by omega, fun k hk => ?_⟩
          have e1 : (cur.toList.take ((n + 1) * 1))[k]? = ((xs ++ [u]).map (Value.int .i64))[k]? := by rw [q7]
          rw [List.getElem?_take_of_lt (by omega), Array.getElem?_toList] at e1
          have hl : k < (xs ++ [u]).length := by simp [hown.1]; omega
          rw [Nat.zero_add, e1, List.getElem?_map, List.getElem?_eq_getElem hl]
          simp [ig, List.getD_eq_getElem?_getD, List.getElem?_eq_getElem hl]
        · intro a' ha'
          injection ha' with ha'
          rw [← ha']
          exact Or.inr (by show W.heap.size ≤ g; omega)
end Go.Proofs.Ytgcoecibhonfnaa
