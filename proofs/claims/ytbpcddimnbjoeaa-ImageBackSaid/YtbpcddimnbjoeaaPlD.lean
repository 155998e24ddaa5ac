/- Slices of ints: DeleteFunc, over whatever function. -/
import Derived.Test.YtbpcddimnbjoeaaPlX
namespace Go.Proofs.Ytbpcddimnbjoeaa
open Go.RowKit
/-- 'clear(s)', s a slice of n > 0 ints. -/
theorem clear_ints {P : Program} (w : World) (t e ty : TypeId) (z : Value) (ht : P.underlying t = some (.slice e)) (hv : ∀ w, (zeroValue e).run P w = .ok z w) (hz : z.cells = #[.int .i64 0]) (b o n c : Nat) (hn : 0 < n)
    (hc : ∀ j, j < n → (w.cell? ⟨b, o + j, none⟩).isSome = true) (hf : ∀ j, j < n → w.frozen? ⟨b, o + j, none⟩ = false) :
    (Builtin.clear_ #[t] ty #[.slice (some ⟨b, o, none⟩) n c]).run P w = .ok (.tuple #[]) (w.setCells b o (List.replicate n (.int .i64 0))) := by
  have hzc : (Builtin.zeroCells z.cells n).toList = List.replicate n (.int .i64 0) := by
    rw [hz]
    simp [Builtin.zeroCells]
    apply List.ext_getElem
    · simp
    · intro i h1 h2
      simp [Nat.mod_one]
  have hst := run_storeCells_cells (P := P) b o (List.replicate n (.int .i64 0)) 0 w (by simpa using hc) (by simpa using hf) (by intro v hv'; rw [List.eq_of_mem_replicate hv']; rfl)
  simp only [Nat.add_zero] at hst
  obtain ⟨m, rfl⟩ : ∃ m, n = m + 1 := ⟨n - 1, by omega⟩
  simp [Builtin.clear_, run_underlying ht, hv, hzc, hst]
/-- A row of ints, with room for c. -/
def IBc (w : World) (g c : Nat) (cs : List Int) : Prop := ∃ rest : List Value, w.heap[g]? = some (.cells (cs.map (Value.int .i64) ++ rest).toArray 3 (0, 0)) ∧ cs.length + rest.length = c
theorem IBc.ib {w : World} {g c : Nat} {cs : List Int} (h : IBc w g c cs) : IB w g 3 .i64 cs := by obtain ⟨r, h, _⟩ := h; exact ⟨r, h⟩
theorem IBc.at_ {w w' : World} {g c : Nat} {cs : List Int} (h : IBc w g c cs) (hb : w'.heap[g]? = w.heap[g]?) : IBc w' g c cs := by obtain ⟨r, h, hl⟩ := h; exact ⟨r, hb.trans h, hl⟩
theorem IBc.set_ {w : World} {g c : Nat} {cs : List Int} (h : IBc w g c cs) {k : Nat} (hk : k < cs.length) (u : Int) : IBc (w.setCell ⟨g, k, none⟩ (.int .i64 u)) g c (cs.set k u) := by
  obtain ⟨r, h, hl⟩ := h
  have hb : Blk w g 3 (cs.map (Value.int .i64) ++ r).toArray := h
  have h2 := hb.set_ k (.int .i64 u)
  refine ⟨r, ?_, by simpa using hl⟩
  unfold Blk at h2
  rw [h2]
  congr 2
  apply Array.ext'
  simp only [Array.toList_setIfInBounds]
  rw [List.set_append_left _ _ (by simpa using hk), List.map_set]
theorem IBc.zeros {g c : Nat} : ∀ (n o : Nat) {w : World} {cs : List Int}, IBc w g c cs → o + n ≤ cs.length → ∃ cs', IBc (w.setCells g o (List.replicate n (.int .i64 0))) g c cs' ∧ cs'.length = cs.length ∧ cs'.take o = cs.take o
  | 0, _, _, cs, h, _ => ⟨cs, h, rfl, rfl⟩
  | n + 1, o, w, cs, h, hl => by
    obtain ⟨cs', h1, h2, h3⟩ := IBc.zeros n (o + 1) (h.set_ (k := o) (by omega) 0) (by simp; omega)
    refine ⟨cs', h1, by simpa using h2, ?_⟩
    have h4 : (cs'.take (o + 1)).take o = ((cs.set o 0).take (o + 1)).take o := by rw [h3]
    rw [List.take_take, List.take_take, Nat.min_eq_left (by omega)] at h4
    rw [h4, List.take_set_of_le (by omega)]
theorem OwnI.row {w : World} {B : Nat} {A : Option Addr} {n c : Nat} {xs : List Int} (h : OwnI w B A n c xs) : (A = none ∧ n = 0 ∧ c = 0) ∨ ∃ g, A = some ⟨g, 0, none⟩ ∧ B ≤ g ∧ n ≤ c ∧ c ≤ maxLen ∧ ∃ cs, IBc w g c cs ∧ n ≤ cs.length ∧ cs.take n = xs := by
  rcases h.2 with ⟨e, h0⟩ | ⟨g, cap, cur, e, hg, hh, h1, h2, h3, h4⟩
  · injection e with e1 e2 e3
    exact .inl ⟨e1, h0, e3⟩
  · injection e with e1 e2 e3
    refine .inr ⟨g, e1, hg, by omega, by omega, xs, ⟨cur.toList.drop n, ?_, ?_⟩, by rw [h.len]; exact Nat.le_refl _, by rw [List.take_of_length_le (by rw [h.len]; exact Nat.le_refl _)]⟩
    · rw [hh]
      congr 2
      rw [Nat.mul_one] at h4
      rw [← h4, List.take_append_drop]
    · have hcs : cur.toList.length = cap := by rw [Array.length_toList]; omega
      rw [List.length_drop, hcs, h.len]
      omega
theorem OwnI.of_row {w : World} {B g n c : Nat} {cs : List Int} (h : IBc w g c cs) (hB : B ≤ g) (hn : n ≤ cs.length) (hc : c ≤ maxLen) : OwnI w B (some ⟨g, 0, none⟩) n c (cs.take n) := by
  obtain ⟨r, hh, hl⟩ := h
  refine ⟨by simp; omega, .inr ⟨g, c, _, rfl, hB, hh, by omega, hc, by simp; omega, ?_⟩⟩
  rw [Nat.mul_one]
  rw [List.take_append_of_le_length (by simpa using hn), List.map_take]
/-- What is left of the first k. -/
def keptI (q : Nat → Bool) (xs : List Int) : Nat → List Int
  | 0 => []
  | k + 1 => keptI q xs k ++ if q k then [] else [ig xs k]
theorem keptI_len (q : Nat → Bool) (xs : List Int) : ∀ k, (keptI q xs k).length ≤ k
  | 0 => Nat.le_refl _
  | k + 1 => by
    have := keptI_len q xs k
    show (keptI q xs k ++ _).length ≤ _
    rw [List.length_append]
    split <;> simp <;> omega
theorem keptI_all {q : Nat → Bool} {xs : List Int} : ∀ {k : Nat}, (∀ i, i < k → q i = false) → k ≤ xs.length → keptI q xs k = xs.take k
  | 0, _, _ => by simp [keptI]
  | k + 1, h, hl => by
    show keptI q xs k ++ _ = _
    rw [keptI_all (fun i hi => h i (by omega)) (by omega), h k (by omega), take_step (by omega)]
    rfl
theorem ig_set_ne {l : List Int} {k j : Nat} {u : Int} (h : k ≠ j) : ig (l.set k u) j = ig l j := by
  unfold ig
  rw [List.getD_eq_getElem?_getD, List.getD_eq_getElem?_getD, List.getElem?_set, if_neg h]
/-- In the midst of DeleteFunc. -/
structure DlAt (W : World) (g c n : Nat) (xs : List Int) (q : Nat → Bool) (K : Nat → World → Prop) (i j : Nat) : Prop where
  row : ∃ cs, IBc W g c cs ∧ cs.length = n ∧ cs.take i = keptI q xs j ∧ ∀ k, j ≤ k → ig cs k = ig xs k
  k : K j W
  ij : i < j
  jn : j ≤ n
  il : i = (keptI q xs j).length
theorem stab_cells {g : Nat} {K : World → Prop} (h : ∀ W j u, K W → K (W.setCell ⟨g, j, none⟩ u)) : ∀ (vs : List Value) (o : Nat) (W : World), K W → K (W.setCells g o vs)
  | [], _, _, hk => hk
  | v :: vs, o, W, hk => stab_cells h vs (o + 1) _ (h W o v hk)
def DelR (B : Nat) (A : Option Addr) (n c : Nat) (xs : List Int) (q : Nat → Bool) (K : Nat → World → Prop) (e : Ending) (w' : World) : Prop := ∃ m, e = .returned (.slice A m c) ∧ OwnI w' B A m c (keptI q xs n) ∧ K n w'
theorem elemI : ∀ w, (sizeOf (Try.prog.elem 43)).run Try.prog w = .ok 1 w := fun w => by kernel_rfl
end Go.Proofs.Ytbpcddimnbjoeaa
