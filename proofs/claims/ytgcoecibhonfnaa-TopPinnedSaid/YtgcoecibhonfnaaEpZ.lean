/- The document's clock: Retire. -/
import Derived.Test.YtgcoecibhonfnaaEpY
import Derived.Deep.AppendLies
import Derived.Deep.RegionLaw
import Derived.Laws.AppendOwnNone
namespace Go.Proofs.Ytgcoecibhonfnaa
open Go.RowKit
theorem news_pairs {W : World} {ad : Addr} {ys : List Int} (hr : ∀ j, j < ys.length → W.cell? (ad.add j) = some (.int .i64 (ig ys j))) : ∀ j u, (ys.map (Value.int .i64))[j]? = some u → W.cell? (ad.add j) = some u := by
  intro j u hu
  have hj : j < ys.length := by have := (List.getElem?_eq_some_iff.1 hu).1; simpa using this
  rw [hr j hj, ← hu, List.getElem?_map, List.getElem?_eq_getElem hj]
  simp [ig, List.getD_eq_getElem?_getD, List.getElem?_eq_getElem hj]
theorem ones_pairs (ys : List Int) : ∀ u ∈ ys.map (Value.int .i64), u.oneCell' = true := by
  intro u hu
  obtain ⟨x, _, rfl⟩ := List.mem_map.1 hu
  rfl
/-- 'append(s, t...)' on lists of pairs, s being a row of one's own. -/
theorem wp_push2 {o : Oper} {a : Act} {K : Act → World → Prop} {Q : Exit → Act → World → Prop} (s x : Operand)
    (ho : o.op = .call { callee := .builtin .append, args := #[s, x], argTypes := #[35, 35] })
    (W : World) (base : Nat) (A : Option Addr) (n c : Nat) (fl : List Int) (hs : a.eval s = .slice A n c) (hown : W.ownsRow base 49 2 (.slice A n c) n (fl.map (.int .i64)))
    (ad : Addr) (m c' : Nat) (ys : List Int) (hx : a.eval x = .slice (some ad) m c') (hys : ys.length = m * 2) (hr : ∀ j, j < ys.length → W.cell? (ad.add j) = some (.int .i64 (ig ys j)))
    (hm : 0 < m) (nm : Nat) (enm : n + m = nm) (hnm : nm ≤ 1048577) (zs : List Int) (ezs : fl ++ ys = zs) (hbase : base ≤ W.heap.size)
    (h : ∀ g cap w', w'.ownsRow base 49 2 (.slice (some ⟨g, 0, none⟩) nm cap) nm (zs.map (.int .i64)) → base ≤ g → Below base W w' → (∀ k, k < W.heap.size → (Value.slice A n c).ownBlock ≠ some k → w'.heap[k]? = W.heap[k]?) → K (a.put o.dst (.slice (some ⟨g, 0, none⟩) nm cap)) w') :
    o.wp Try.prog a W K Q := by
  subst enm ezs
  obtain ⟨ri, rz, ri1, rz1, ri2, ri3, rz2⟩ := ref_info
  refine wp_append_lies W s x 35 ho base 49 ri rz 2 16 Try.underlying35 ri1 rz1 ri2 ri3 rz2 (by decide) (.slice A n c) n (fl.map (.int .i64)) hs hown ad m c' (ys.map (.int .i64)) hx (by simpa using hys) (news_pairs hr) (ones_pairs ys) hm
    (by unfold maxLen; omega) (by omega) hbase _ rfl ?_
  intro g cap w' hown' hg hat hlt
  have hb : Below base W w' := (Below.refl base W).grown hg hbase fun k hk => (hown.lt k hk).1
  exact h g cap w' (by simpa using hown') (own_block hown' rfl).1 hb fun k hk hne => hg.block k hk fun e => hne e.symm
theorem step_push2 {ops : Array Oper} {o : Oper} {a : Act} {K : Act → World → Prop} {Q : Exit → Act → World → Prop} {E : Prop} (hgd : o.guard = none) (s x : Operand)
    (ho : o.op = .call { callee := .builtin .append, args := #[s, x], argTypes := #[35, 35] })
    (W : World) (base : Nat) (A : Option Addr) (n c : Nat) (fl : List Int) (hs : a.eval s = .slice A n c) (hown : W.ownsRow base 49 2 (.slice A n c) n (fl.map (.int .i64)))
    (ad : Addr) (m c' : Nat) (ys : List Int) (hx : a.eval x = .slice (some ad) m c') (hys : ys.length = m * 2) (hr : ∀ j, j < ys.length → W.cell? (ad.add j) = some (.int .i64 (ig ys j)))
    (hm : 0 < m) (nm : Nat) (enm : n + m = nm) (hnm : nm ≤ 1048577) (zs : List Int) (ezs : fl ++ ys = zs) (hbase : base ≤ W.heap.size)
    (h : ∀ g cap w', w'.ownsRow base 49 2 (.slice (some ⟨g, 0, none⟩) nm cap) nm (zs.map (.int .i64)) → base ≤ g → Below base W w' → (∀ k, k < W.heap.size → (Value.slice A n c).ownBlock ≠ some k → w'.heap[k]? = W.heap[k]?) → K (a.put o.dst (.slice (some ⟨g, 0, none⟩) nm cap)) w') :
    if Region.wanted o (yielded ops a.tmps) = true then Oper.wp Try.prog o a W K Q else E := by
  have hw : Region.wanted o (yielded ops a.tmps) = true := by simp [Region.wanted, hgd]
  rw [if_pos hw]
  exact wp_push2 s x ho W base A n c fl hs hown ad m c' ys hx hys hr hm nm enm hnm zs ezs hbase h
/-- The same where nothing is appended. -/
theorem step_push2_none {ops : Array Oper} {o : Oper} {a : Act} {K : Act → World → Prop} {Q : Exit → Act → World → Prop} {E : Prop} (hgd : o.guard = none) (s x : Operand)
    (ho : o.op = .call { callee := .builtin .append, args := #[s, x], argTypes := #[35, 35] })
    (W : World) (base : Nat) (v : Value) (n : Nat) (xs : List Value) (hs : a.eval s = v) (hown : W.ownsRow base 49 2 v n xs) (hx : a.eval x = .slice none 0 0)
    (h : K (a.put o.dst v) W) :
    if Region.wanted o (yielded ops a.tmps) = true then Oper.wp Try.prog o a W K Q else E := by
  obtain ⟨ri, rz, ri1, rz1, ri2, ri3, rz2⟩ := ref_info
  have hw : Region.wanted o (yielded ops a.tmps) = true := by simp [Region.wanted, hgd]
  rw [if_pos hw]
  have hrun := run_append_owned_none (P := Try.prog) (w := W) base 35 o.type 49 ri 2 Try.underlying35 ri1 v n xs hown
  unfold Oper.wp
  simp [execOp, ho, resolve, invoke, builtin, hs, hx, hrun, Result.andThen]
  exact h
theorem own_new2 (w : World) : (w.alloc (.cells #[] 49)).ownsRow w.heap.size 49 2 (.slice (some ⟨w.heap.size, 0, none⟩) 0 0) 0 (([] : List Int).map (.int .i64)) :=
  ⟨rfl, Or.inr ⟨w.heap.size, 0, #[], rfl, Nat.le_refl _, heap_alloc_new w _, Nat.le_refl _, Nat.zero_le _, rfl, rfl⟩⟩
theorem pair_cells {W : World} {b : Nat} {x y : Int} (h : W.heap[b]? = some (.cells #[.int .i64 x, .int .i64 y] 49 (0, 0))) : ∀ j, j < [x, y].length → W.cell? (Addr.add ⟨b, 0, none⟩ j) = some (.int .i64 (ig [x, y] j)) := by
  intro j hj
  rw [Addr.add_lit, Nat.zero_add]
  refine (cell_of_row W b j _ _ (0, 0) h).trans ?_
  have : j = 0 ∨ j = 1 := by simp at hj; omega
  rcases this with rfl | rfl <;> rfl
end Go.Proofs.Ytgcoecibhonfnaa
