/- Rows of the call's own; clones of rows. -/
import Derived.Test.YtbpcddimnbjoeaaPmD
namespace Go.Proofs.Ytbpcddimnbjoeaa
open Go.RowKit Go.Maps Go.ChangeMaps Go.MapKept
/-- A row of the call's own: its first cells. -/
def Rw (w : World) (g t n : Nat) (cs : List Value) : Prop := ∃ cur : Array Value, w.heap[g]? = some (.cells cur t (0, 0)) ∧ cur.size = n ∧ cur.toList.take cs.length = cs
section
variable {w w' : World} {g t n : Nat} {cs : List Value}
theorem Rw.blk (h : Rw w g t n cs) : ∃ cur, Blk w g t cur ∧ cur.size = n ∧ cur.toList.take cs.length = cs := h
theorem Rw.lt (h : Rw w g t n cs) : g < w.heap.size := by obtain ⟨cur, hb, _⟩ := h.blk; exact hb.lt
theorem Rw.len (h : Rw w g t n cs) : cs.length ≤ n := by
  obtain ⟨cur, _, hn, ht⟩ := h
  have := congrArg List.length ht
  rw [List.length_take] at this
  have h2 : cur.toList.length = n := by simpa using hn
  omega
theorem Rw.cell (h : Rw w g t n cs) {j : Nat} {u : Value} (hu : cs[j]? = some u) : w.cell? ⟨g, j, none⟩ = some u := by
  obtain ⟨cur, hb, _, ht⟩ := h.blk
  rw [hb.cell, ← Array.getElem?_toList]
  rw [← ht, List.getElem?_take] at hu
  split at hu
  · exact hu
  · cases hu
theorem Rw.frozen (h : Rw w g t n cs) (i : Nat) : w.frozen? ⟨g, i, none⟩ = false := by obtain ⟨cur, hb, _⟩ := h.blk; exact hb.frozen i
theorem Rw.at_ (h : Rw w g t n cs) (he : w'.heap[g]? = w.heap[g]?) : Rw w' g t n cs := by obtain ⟨cur, hb, r⟩ := h; exact ⟨cur, he.trans hb, r⟩
theorem Rw.set_ (h : Rw w g t n cs) (j : Nat) (u : Value) : Rw (w.setCell ⟨g, j, none⟩ u) g t n (cs.set j u) := by
  obtain ⟨cur, hb, hn, ht⟩ := h.blk
  refine ⟨cur.setIfInBounds j u, hb.set_ j u, by rw [Array.size_setIfInBounds, hn], ?_⟩
  rw [List.length_set, Array.toList_setIfInBounds, List.take_set, ht]
/-- Cells written one behind the other. -/
def setL : List Value → Nat → List Value → List Value
  | cs, _, [] => cs
  | cs, o, v :: r => setL (cs.set o v) (o + 1) r
theorem Rw.setCells : ∀ (vs : List Value) (o : Nat) {w : World} {cs : List Value}, Rw w g t n cs → Rw (w.setCells g o vs) g t n (setL cs o vs)
  | [], _, _, _, h => h
  | v :: r, o, _, _, h => Rw.setCells r (o + 1) (h.set_ o v)
theorem setL_get : ∀ (vs cs : List Value) (o q : Nat), (setL cs o vs)[q]? = if o ≤ q ∧ q < o + vs.length ∧ q < cs.length then vs[q - o]? else cs[q]?
  | [], cs, o, q => by rw [if_neg (by simp; omega)]; rfl
  | v :: r, cs, o, q => by
    show (setL (cs.set o v) (o + 1) r)[q]? = _
    rw [setL_get r (cs.set o v) (o + 1) q, List.length_set, List.length_cons]
    by_cases hq : q = o
    · subst hq
      rw [if_neg (by omega), List.getElem?_set_self']
      by_cases hc : q < cs.length
      · rw [if_pos ⟨Nat.le_refl _, by omega, hc⟩, Nat.sub_self, List.getElem?_eq_getElem hc]; rfl
      · rw [if_neg (by omega), List.getElem?_eq_none (by omega)]; rfl
    · by_cases hc : o + 1 ≤ q ∧ q < o + 1 + r.length ∧ q < cs.length
      · rw [if_pos hc, if_pos ⟨by omega, by omega, hc.2.2⟩, show q - o = (q - (o + 1)) + 1 by omega, List.getElem?_cons_succ]
      · rw [if_neg hc, if_neg (by omega), List.getElem?_set_ne (by omega)]
theorem Rw.of_own {base e sz c : Nat} {A : Option Addr} {xs : List Value} (h : w.ownsRow base e sz (.slice A n c) n xs) (h0 : 0 < n) : ∃ g, A = some ⟨g, 0, none⟩ ∧ base ≤ g ∧ n ≤ c ∧ c ≤ maxLen ∧ Rw w g e (c * sz) xs := by
  rcases h.2 with ⟨_, e0⟩ | ⟨g, cap, cur, ev, hg, hh, hn, hc, hsz, ht⟩
  · omega
  · injection ev with e1 _ e3
    subst e3
    exact ⟨g, e1, hg, hn, hc, cur, hh, hsz, by rw [h.1]; exact ht⟩
theorem Rw.own {base e sz c : Nat} {xs : List Value} (h : Rw w g e (c * sz) xs) (hl : xs.length = n * sz) (hb : base ≤ g) (hn : n ≤ c) (hc : c ≤ maxLen) : w.ownsRow base e sz (.slice (some ⟨g, 0, none⟩) n c) n xs := by
  obtain ⟨cur, hh, hs, ht⟩ := h
  exact ⟨hl, .inr ⟨g, c, cur, rfl, hb, hh, hn, hc, hs, by rw [← hl]; exact ht⟩⟩
end
/-- What lies in blocks of S. -/
def RdS (w : World) (S : Nat → Prop) (A : Option Addr) (n : Nat) (xs : List Value) : Prop := xs.length = n ∧ (0 < n → ∃ b o, A = some ⟨b, o, none⟩ ∧ S b ∧ ∀ j u, xs[j]? = some u → w.cell? ⟨b, o + j, none⟩ = some u)
section
variable {w w' : World} {S S' W : Nat → Prop} {A : Option Addr} {n : Nat} {xs : List Value} {B : Nat}
theorem Rd.s (h : Rd w B A n xs) : RdS w (· < B) A n xs := h
theorem RdS.mono (h : RdS w S A n xs) (hS : ∀ b, S b → S' b) : RdS w S' A n xs := ⟨h.1, fun h0 => by obtain ⟨b, o, e, hb, hc⟩ := h.2 h0; exact ⟨b, o, e, hS b hb, hc⟩⟩
theorem RdS.rd (h : RdS w S A n xs) (hS : ∀ b, S b → b < B) : Rd w B A n xs := h.mono hS
theorem RdS.tch (h : RdS w S A n xs) (hT : Tch W w w') (hS : ∀ b, S b → b < w.heap.size ∧ ¬ W b) : RdS w' S A n xs :=
  ⟨h.1, fun h0 => by obtain ⟨b, o, e, hb, hc⟩ := h.2 h0; exact ⟨b, o, e, hb, fun j u hu => (hT.cell (p := ⟨b, o + j, none⟩) (hS b hb).1 (hS b hb).2).trans (hc j u hu)⟩⟩
end
def IS.AtS (w : World) (S : Nat → Prop) (k : IntKind) (l : IS) : Prop := (l.A = none → l.n = 0 ∧ l.c = 0) ∧ l.n ≤ 1048576 ∧ RdS w S l.A l.n (l.xs.map (.int k)) ∧ ∀ x ∈ l.xs, (Lit.int k x).wf = true
theorem IS.At.s {w : World} {B : Nat} {k : IntKind} {l : IS} (h : l.At w B k) : l.AtS w (· < B) k := h
theorem IS.AtS.mono {w : World} {S S' : Nat → Prop} {k : IntKind} {l : IS} (h : l.AtS w S k) (hS : ∀ b, S b → S' b) : l.AtS w S' k := ⟨h.1, h.2.1, h.2.2.1.mono hS, h.2.2.2⟩
theorem IS.AtS.tch {w w' : World} {S W : Nat → Prop} {k : IntKind} {l : IS} (h : l.AtS w S k) (hT : Tch W w w') (hS : ∀ b, S b → b < w.heap.size ∧ ¬ W b) : l.AtS w' S k := ⟨h.1, h.2.1, h.2.2.1.tch hT hS, h.2.2.2⟩
theorem IS.AtS.at_ {w : World} {S : Nat → Prop} {k : IntKind} {l : IS} {B : Nat} (h : l.AtS w S k) (hS : ∀ b, S b → b < B) : l.At w B k := h.mono hS
/-- The cells of nodes, one behind the other. -/
def flat (ns : List ND) : List Value := (ns.map fun d => d.cells.toList).flatten
theorem cells_len (d : ND) : d.cells.toList.length = 7 := rfl
theorem cells7 (ns : List ND) : ∀ c ∈ ns.map fun d => d.cells.toList, c.length = 7 := by
  intro c hc
  obtain ⟨d, _, rfl⟩ := List.mem_map.1 hc
  rfl
theorem flat_length (ns : List ND) : (flat ns).length = ns.length * 7 := by
  unfold flat
  rw [flat_len _ (cells7 ns), List.length_map]
theorem flat_q (ns : List ND) (q : Nat) : (flat ns)[q]? = (ns[q / 7]?).bind fun d => d.cells.toList[q % 7]? := by
  by_cases hi : q / 7 < ns.length
  · have h := flat_get (ns.map fun d => d.cells.toList) (cells7 ns) (q / 7) (q % 7) ns[q / 7].cells.toList (by rw [List.getElem?_map, List.getElem?_eq_getElem hi]; rfl) (Nat.mod_lt _ (by decide))
    rw [Nat.div_add_mod'] at h
    rw [List.getElem?_eq_getElem hi]
    exact h
  · rw [List.getElem?_eq_none (by rw [flat_length]; omega), List.getElem?_eq_none (by omega)]; rfl
theorem flat_get2 {ns : List ND} {i : Nat} {d : ND} (h : ns[i]? = some d) (k : Nat) (hk : k < 7) : (flat ns)[i * 7 + k]? = d.cells.toList[k]? := by
  rw [flat_q, show (i * 7 + k) / 7 = i by omega, show (i * 7 + k) % 7 = k by omega, h]; rfl
theorem flat_set {ns : List ND} {i k : Nat} {d d' : ND} {u : Value} (h : ns[i]? = some d) (hk : k < 7) (he : d'.cells.toList = d.cells.toList.set k u) : (flat ns).set (i * 7 + k) u = flat (ns.set i d') := by
  have hi : i < ns.length := (List.getElem?_eq_some_iff.1 h).1
  refine List.ext_getElem? fun q => ?_
  rw [flat_q (ns.set i d')]
  by_cases e : q / 7 = i
  · rw [e, List.getElem?_set_self hi]
    show _ = d'.cells.toList[q % 7]?
    rw [he]
    by_cases e2 : q % 7 = k
    · rw [show i * 7 + k = q by omega, List.getElem?_set_self (by rw [flat_length]; omega), e2, List.getElem?_set_self (by rw [cells_len]; exact hk)]
    · rw [List.getElem?_set_ne (by omega), List.getElem?_set_ne (by omega), flat_q, e, h]; rfl
  · rw [List.getElem?_set_ne (by omega), List.getElem?_set_ne (by omega), flat_q]
theorem flat_setL {ns : List ND} {i : Nat} {d : ND} (hi : i < ns.length) : setL (flat ns) (i * 7) d.cells.toList = flat (ns.set i d) := by
  refine List.ext_getElem? fun q => ?_
  rw [flat_q (ns.set i d), setL_get, cells_len, flat_length]
  by_cases e : q / 7 = i
  · rw [if_pos (by omega), e, List.getElem?_set_self hi, show q - i * 7 = q % 7 by omega]; rfl
  · rw [if_neg (by omega), List.getElem?_set_ne (by omega), flat_q]
theorem flat_append (ns : List ND) (d : ND) : flat (ns ++ [d]) = flat ns ++ d.cells.toList := by unfold flat; simp
theorem info_node : (Try.prog.info? 42).map (fun i => (i.zero, i.size, i.bytes)) = some (some (.agg #[.int .u64 0, .slice none 0 0, .int .u64 0, .int .i64 0, .slice none 0 0, .int .i64 0, .int .i64 0]), 7, 88) := by kernel_rfl
theorem info_ints : (Try.prog.info? 43).map (fun i => (i.zero, i.size, i.bytes)) = some (some (.slice none 0 0), 1, 24) := by kernel_rfl
theorem info_int32 : (Try.prog.info? 21).map (fun i => (i.zero, i.size, i.bytes)) = some (some (.int .i32 0), 1, 4) := by kernel_rfl
set_option maxRecDepth 100000 in
/-- 'append([]E{}, l...)'. -/
theorem wpList_cloneV {ops : Array Oper} {rest : List Oper} {o : Oper} {a : Act} {Q : Exit → Act → World → Prop} (hgd : o.guard = none) (s x : Operand) (T e sz bytes : Nat) (z : Value)
    (ho : o.op = .call { callee := .builtin .append, args := #[s, x], argTypes := #[T, T] })
    (hT : Try.prog.underlying T = some (.slice e)) (hinfo : (Try.prog.info? e).map (fun i => (i.zero, i.size, i.bytes)) = some (some z, sz, bytes)) (hzs : z.cells.size = sz) (hsz : 0 < sz)
    (w0 : World) (A : Option Addr) (n c : Nat) (xs : List Value) (hs : a.eval s = .slice (some ⟨w0.heap.size, 0, none⟩) 0 0) (hx : a.eval x = .slice A n c) (hl : xs.length = n * sz)
    (hr : 0 < n → ∃ b o, A = some ⟨b, o, none⟩ ∧ b < w0.heap.size ∧ ∀ j u, xs[j]? = some u → w0.cell? ⟨b, o + j, none⟩ = some u) (h1 : ∀ u ∈ xs, u.oneCell' = true)
    (hA : A = none → n = 0 ∧ c = 0) (hn : n ≤ 2097152) (hby : bytes ≤ 88)
    (h : ∀ A' c' w', w'.ownsRow w0.heap.size e sz (.slice A' n c') n xs → A' ≠ none → Below w0.heap.size w0 w' → wpList Try.prog ops Q rest (a.put o.dst (.slice A' n c')) w') :
    wpList Try.prog ops Q (o :: rest) a (w0.alloc (.cells #[] e)) := by
  obtain ⟨i, hi, hz, hz1, hz2⟩ := info_parts hinfo
  have hb0 := bel_box w0 (.cells #[] e)
  have hown : (w0.alloc (.cells #[] e)).ownsRow w0.heap.size e sz (.slice (some ⟨w0.heap.size, 0, none⟩) 0 0) 0 [] :=
    ⟨by simp, Or.inr ⟨w0.heap.size, 0, #[], rfl, Nat.le_refl _, heap_alloc_new w0 _, Nat.le_refl _, Nat.zero_le _, by simp, by simp⟩⟩
  cases A with
  | none =>
    obtain ⟨rfl, rfl⟩ := hA rfl
    have : xs = [] := List.eq_nil_of_length_eq_zero (by rw [hl, Nat.zero_mul])
    subst this
    refine wpList_append_own_none hgd s x T ho w0.heap.size e i sz hT hi _ 0 [] hs hown hx ?_
    exact h _ _ _ hown (by simp) hb0
  | some ad =>
    have hc : ∀ j u, xs[j]? = some u → (w0.alloc (.cells #[] e)).cell? (ad.add j) = some u := by
      intro j u hu
      have hj : j < n * sz := by
        have := (List.getElem?_eq_some_iff.1 hu).1
        rw [hl] at this
        exact this
      obtain ⟨b, o, e, hb, hcc⟩ := hr (Nat.pos_of_ne_zero (by rintro rfl; rw [Nat.zero_mul] at hj; omega))
      injection e with e
      subst e
      rw [Addr.add_lit]
      exact (hb0.cell (p := ⟨b, o + j, none⟩) hb).trans (hcc j u hu)
    refine wpList_append_own _ hgd s x T ho w0.heap.size e i z sz bytes hT hi hz hz1 hz2 hzs hsz _ 0 [] hs hown ad n c xs hx hl hc h1
      (by unfold maxLen; omega) (by rw [Nat.zero_add]; have := Nat.mul_le_mul hn hby; omega) hb0.size ?_
    intro v' w' ho' hg hnn
    rw [List.nil_append, Nat.zero_add] at ho'
    have hb' := hb0.grown hg hb0.size (fun k hk => by injection hk with hk; exact Nat.le_of_eq hk)
    rcases ho'.2 with ⟨rfl, e0⟩ | ⟨g, cap, cur, rfl, _⟩
    · exact absurd (hnn.1 rfl).1 (by intro q; injection q with q _ _; cases q)
    · exact h _ _ _ ho' (by simp) hb'
/-- What is told: a row of the call's own. -/
def RetV (e sz n : Nat) (A : Option Addr) (xs : List Value) (w : World) (en : Ending) (w' : World) : Prop := ∃ A' c', en = .returned (.slice A' n c') ∧ w'.ownsRow w.heap.size e sz (.slice A' n c') n xs ∧ (A' = none ↔ A = none) ∧ Below w.heap.size w w'
theorem rs_flat {w : World} {B : Nat} {A : Option Addr} {n sz : Nat} {css : List (List Value)} (h : Rs w B A n sz css) (hz : 0 < sz) : css.flatten.length = n * sz ∧ (0 < n → ∃ b o, A = some ⟨b, o, none⟩ ∧ b < B ∧ ∀ j u, css.flatten[j]? = some u → w.cell? ⟨b, o + j, none⟩ = some u) := by
  refine ⟨by rw [flat_len _ h.2.1, h.1], fun h0 => ?_⟩
  obtain ⟨b, o, e, hb, hc⟩ := h.flat hz h0
  exact ⟨b, o, e, hb, fun j u hj => by rw [← Addr.add_lit]; exact hc j u hj⟩
theorem flat_one (xs : List Value) : (xs.map fun v => [v]).flatten = xs := by induction xs with | nil => rfl | cons v r ih => simp [ih]
end Go.Proofs.Ytbpcddimnbjoeaa
