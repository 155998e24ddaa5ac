/- The document's clock: Free. -/
import Derived.Test.YtgcoecibhonfnaaEpV
namespace Go.Proofs.Ytgcoecibhonfnaa
open Go.RowKit
/-- 'append(s, u)' on a row of one's own: what is no part of it stays. -/
theorem wpList_app {ops : Array Oper} {rest : List Oper} {o : Oper} {a : Act} {Q : Exit → Act → World → Prop} (hgd : o.guard = none) (s x : Operand) (T e : TypeId) (i : TypeInfo) (z : Value) (sz by_ : Nat)
    (ho : o.op = .call { callee := .builtin .append, args := #[s, x], argTypes := #[T, T] })
    (ht : Try.prog.underlying T = some (.slice e)) (hi : Try.prog.info? e = some i) (hz : i.zero = some z) (hsize : i.size = sz) (hby : i.bytes = by_) (hzs : z.cells.size = sz) (hsz : 0 < sz) (hb16 : by_ ≤ 16)
    (W : World) (base : Nat) (A : Option Addr) (n c : Nat) (xs : List Value) (hs : a.eval s = .slice A n c) (hown : W.ownsRow base e sz (.slice A n c) n xs)
    (b : Nat) (c' : Nat) (cs : Array Value) (hx : a.eval x = .slice (some ⟨b, 0, none⟩) 1 c') (hb : W.heap[b]? = some (.cells cs e (0, 0))) (hcs : cs.size = sz) (h1 : ∀ u ∈ cs.toList, u.oneCell' = true)
    (hn : n ≤ 1048576) (hbase : base ≤ W.heap.size)
    (h : ∀ g cap w', w'.ownsRow base e sz (.slice (some ⟨g, 0, none⟩) (n + 1) cap) (n + 1) (xs ++ cs.toList) → base ≤ g → Below base W w' → (∀ k, k < W.heap.size → (Value.slice A n c).ownBlock ≠ some k → w'.heap[k]? = W.heap[k]?) → wpList Try.prog ops Q rest (a.put o.dst (.slice (some ⟨g, 0, none⟩) (n + 1) cap)) w') :
    wpList Try.prog ops Q (o :: rest) a W := by
  have hm : (n + 1) * by_ ≤ (n + 1) * 16 := Nat.mul_le_mul_left _ hb16
  refine wpList_append_lies W hgd s x T ho base e i z sz by_ ht hi hz hsize hby hzs hsz (.slice A n c) n xs hs hown ⟨b, 0, none⟩ 1 c' cs.toList hx (by simpa using hcs) (World.news_of_block hb) h1 (by decide)
    (by unfold maxLen; omega) (by omega) hbase _ rfl ?_
  intro g cap w' hown' hg hat hlt
  have hb : Below base W w' := (Below.refl base W).grown hg hbase fun k hk => (hown.lt k hk).1
  exact h g cap w' hown' (own_block hown' rfl).1 hb fun k hk hne => hg.block k hk fun e => hne e.symm
/-- Rows of two types lie in two blocks. -/
theorem own_apart {w : World} {b1 b2 t1 t2 s1 s2 n1 n2 : Nat} {v1 v2 : Value} {x1 x2 : List Value} (h1 : w.ownsRow b1 t1 s1 v1 n1 x1) (h2 : w.ownsRow b2 t2 s2 v2 n2 x2) (ht : t1 ≠ t2) : ∀ g, v1.ownBlock = some g → v2.ownBlock ≠ some g := by
  intro g hg hg2
  rcases h1.2 with ⟨rfl, _⟩ | ⟨g1, cap, cur, rfl, _, h3, _⟩
  · cases hg
  · rcases h2.2 with ⟨rfl, _⟩ | ⟨g2, cap2, cur2, rfl, _, h4, _⟩
    · cases hg2
    · injection hg with hg
      injection hg2 with hg2
      simp only at hg hg2
      subst hg hg2
      rw [h3] at h4
      injection h4 with h4
      injection h4 with _ h4
      exact ht h4
theorem own_keep1 {w w' : World} {base t size n : Nat} {v : Value} {xs : List Value} (h : w.ownsRow base t size v n xs) (hk : ∀ g, v.ownBlock = some g → g < w.heap.size → w'.heap[g]? = w.heap[g]?) : w'.ownsRow base t size v n xs := by
  refine ⟨h.1, ?_⟩
  rcases h.2 with q | ⟨g, cap, cur, rfl, h2, h3, h4⟩
  · exact Or.inl q
  · exact Or.inr ⟨g, cap, cur, rfl, h2, (hk g rfl (Array.getElem?_eq_some_iff.1 h3).1).trans h3, h4⟩
end Go.Proofs.Ytgcoecibhonfnaa
