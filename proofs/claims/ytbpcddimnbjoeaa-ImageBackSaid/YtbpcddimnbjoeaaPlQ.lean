/- Planes: neighbours, by the document. -/
import Derived.Test.YtbpcddimnbjoeaaPlO
namespace Go.Proofs.Ytbpcddimnbjoeaa
open Go.RowKit Go.Maps Go.ChangeMaps Go.MapKept
set_option maxRecDepth 100000 in
/-- 'append(l, s...)', l nil. -/
theorem wpList_nilI {ops : Array Oper} {rest : List Oper} {o : Oper} {a : Act} {Q : Exit → Act → World → Prop} (hgd : o.guard = none) (s x : Operand)
    (ho : o.op = .call { callee := .builtin .append, args := #[s, x], argTypes := #[43, 43] })
    (w0 : World) (A : Option Addr) (n c : Nat) (xs : List Int) (hs : a.eval s = .slice none 0 0) (hx : a.eval x = .slice A n c) (hr : Rd w0 w0.heap.size A n (xs.map (.int .i64))) (hA : A = none → n = 0 ∧ c = 0) (hn : n ≤ 1048576)
    (h : ∀ A' c' w', OwnI w' w0.heap.size A' n c' xs → Below w0.heap.size w0 w' → wpList Try.prog ops Q rest (a.put o.dst (.slice A' n c')) w') :
    wpList Try.prog ops Q (o :: rest) a w0 := by
  obtain ⟨i, hi, hz, hz1, hz2⟩ := info_parts info_int
  have hown := OwnI.nil_ w0 w0.heap.size
  have hl := hr.lenI
  cases A with
  | none =>
    obtain ⟨rfl, rfl⟩ := hA rfl
    have : xs = [] := List.eq_nil_of_length_eq_zero hl
    subst this
    refine wpList_append_own_none hgd s x 43 ho w0.heap.size 3 i 1 Try.underlying43 hi _ 0 [] hs hown hx ?_
    exact h _ _ _ hown (Below.refl _ _)
  | some ad =>
    have hc : ∀ j u, (xs.map (Value.int .i64))[j]? = some u → w0.cell? (ad.add j) = some u := by
      intro j u hu
      have hj : j < n := by
        have := (List.getElem?_eq_some_iff.1 hu).1
        rw [List.length_map, hl] at this
        exact this
      obtain ⟨b, o, e, hb, hcc⟩ := hr.2 (by omega)
      injection e with e
      subst e
      rw [Addr.add_lit]
      exact hcc j u hu
    refine wpList_append_own _ hgd s x 43 ho w0.heap.size 3 i (.int .i64 0) 1 8 Try.underlying43 hi hz hz1 hz2 rfl (by decide) _ 0 [] hs hown ad n c (xs.map (.int .i64)) hx (by rw [List.length_map, hl, Nat.mul_one]) hc
      (by intro u hu; obtain ⟨z, _, rfl⟩ := List.mem_map.1 hu; rfl) (by unfold maxLen; omega) (by omega) (Nat.le_refl _) ?_
    intro v' w' ho' hg _
    rw [List.nil_append, Nat.zero_add] at ho'
    have hb' := (Below.refl w0.heap.size w0).grown hg (Nat.le_refl _) (fun k hk => by cases hk)
    rcases ho'.2 with ⟨rfl, e0⟩ | ⟨g, cap, cur, rfl, _⟩
    · subst e0; exact h _ _ _ ho' hb'
    · exact h _ _ _ ho' hb'
end Go.Proofs.Ytbpcddimnbjoeaa
