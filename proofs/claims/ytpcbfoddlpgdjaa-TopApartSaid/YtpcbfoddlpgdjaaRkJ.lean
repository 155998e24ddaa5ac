/- Own rows of structs, spots in order: small laws. -/
import Derived.Test.YtpcbfoddlpgdjaaRkI
import Derived.Test.YtpcbfoddlpgdjaaRkS
import Derived.Deep.CutRange
namespace Go.Proofs.Ytpcbfoddlpgdjaa
open Go.RowKit
theorem Rs.of_own0 {w : World} {base e sz n g cap : Nat} {css : List (List Value)} (h : w.ownsRow base e sz (.slice (some ⟨g, 0, none⟩) n cap) n css.flatten) (hl : ∀ c ∈ css, c.length = sz) (hn : css.length = n) :
    Rs w w.heap.size (some ⟨g, 0, none⟩) n sz css ∧ n ≤ cap ∧ cap ≤ maxLen := by
  rcases h.2 with ⟨q, _⟩ | ⟨g', cap', cur, ev, hg, hh, h1, h2, h3, ht⟩
  · injection q with q _ _; cases q
  · injection ev with q1 q2 q3
    injection q1 with q1; injection q1 with q1 _ _
    subst q1 q3
    refine ⟨⟨hn, hl, fun h0 => ?_⟩, h1, h2⟩
    obtain ⟨g2, cap2, ev2, _, _, hr⟩ := Rs.of_own h hl hn h0
    injection ev2 with e1 _ _
    injection e1 with e1; injection e1 with e1 _ _
    subst e1
    exact hr.2.2 h0
theorem take_stepX {α : Type} {l : List α} {k : Nat} {d : α} (h : l[k]? = some d) : l.take (k + 1) = l.take k ++ [d] := by rw [List.take_add_one, h]; rfl
theorem own_spAt {w : World} {base : Nat} {A : Option Addr} {n c : Nat} {l : List Sp} (h : w.ownsRow base 35 3 (.slice A n c) n (flatS l)) (hl : l.length = n) : SpAt w w.heap.size A n l ∧ (A = none → n = 0 ∧ c = 0) := by
  cases A with
  | none =>
    rcases h.2 with ⟨q, _⟩ | ⟨g, cap, cur, q, _⟩
    · injection q with q1 q2 q3
      subst q2 q3
      have : l = [] := List.eq_nil_of_length_eq_zero hl
      subst this
      exact ⟨SpAt.nil_, fun _ => ⟨rfl, rfl⟩⟩
    · cases q
  | some a =>
    refine ⟨?_, fun q => by cases q⟩
    rcases h.2 with ⟨q, _⟩ | ⟨g, cap, cur, q, _⟩
    · cases q
    · injection q with q1 q2 q3
      rw [q1] at h ⊢
      exact (Rs.of_own0 (css := l.map spL) h (fun c hc => by obtain ⟨x, _, rfl⟩ := List.mem_map.1 hc; rfl) (by simpa using hl)).1
theorem grow_bel {base : Nat} {a b : World} {r : Option Nat} (h : a.grownBy b r) (hr : ∀ k, r = some k → base ≤ k) (hb : base ≤ a.heap.size) : Below base a b :=
  ⟨h.os, h.tape, h.output, h.size, fun k hk => h.block k (by omega) (fun q => by have := hr k q.symm; omega)⟩
theorem sortSp_mem {l : List Sp} {x : Sp} : x ∈ sortSp l ↔ x ∈ l := (List.mergeSort_perm l _).mem_iff
theorem sortSp_pair (l : List Sp) : (sortSp l).Pairwise fun a b => ahB b a = false := by
  have := List.pairwise_mergeSort (le := fun x y => !ahB y x) (fun a b c h1 h2 => by
    simp only [Bool.not_eq_true'] at *
    rw [ahB_false] at *
    omega) (fun a b => by
    cases h : ahB b a
    · rfl
    · have h2 : ahB a b = false := by rw [ahB_false]; rw [ahB_iff] at h; omega
      rw [h2]; rfl) l
  exact this.imp (fun h => by simpa using h)
theorem sortSp_at {l : List Sp} {i j : Nat} {a b : Sp} (hij : i ≤ j) (hi : (sortSp l)[i]? = some a) (hj : (sortSp l)[j]? = some b) : ahB b a = false := by
  rcases Nat.eq_or_lt_of_le hij with rfl | hlt
  · rw [hi] at hj
    injection hj with hj
    subst hj
    rw [ahB_false]; omega
  · have hp := List.pairwise_iff_getElem.1 (sortSp_pair l)
    obtain ⟨h1, rfl⟩ := List.getElem?_eq_some_iff.1 hi
    obtain ⟨h2, rfl⟩ := List.getElem?_eq_some_iff.1 hj
    exact hp i j h1 h2 hlt
theorem sizeSpE : ∀ w, (sizeOf (Try.prog.elem 25)).run Try.prog w = .ok 3 w := by
  intro w
  have : Try.prog.elem 25 = 35 := by unfold Program.elem; rw [Try.underlying25]
  rw [this]
  exact Try.sizeOf35 w
theorem yieldsIf_indexS {ops : Array Oper} {S : World → Prop} {o : Oper} {a : Act} {T E sz b off n c k : Nat} (hT : Try.prog.underlying T = some (.slice E)) (hz : ∀ w, (sizeOf (Try.prog.elem T)).run Try.prog w = .ok sz w) (hw : Region.wanted o (yielded ops a.tmps) = true) (x y : Operand) (ho : o.op = .indexAddr T x y) (hx : a.eval x = .slice (some ⟨b, off, none⟩) n c) (hy : a.eval y = .int .i64 (k : Nat)) (hk : k < n) :
    YieldsIf Try.prog ops S o (.pointer (some ⟨b, off + k * sz, none⟩)) a := by
  refine .inl ⟨hw, fun w _ => ?_⟩
  have he : Try.prog.elem T = E := by unfold Program.elem; rw [hT]
  rw [he] at hz
  have h0 : ¬ ((k : Int) < 0) := by omega
  unfold execOp
  simp only [ho, hx, hy]
  simp [go_sem, hT, hz, hk]
/-- Some of a block's cells, written: a struct. -/
theorem blk_mid {w : World} {g t : Nat} {C : Array Value} (h : Blk w g t C) (o : Nat) (vs : List Value) (ho : o + vs.length ≤ C.size) : ∃ C' : Array Value, Blk (w.setCells g o vs) g t C' ∧ C'.size = C.size ∧ ∀ i, C'[i]? = if o ≤ i ∧ i < o + vs.length then vs[i - o]? else C[i]? := by
  obtain ⟨C', h1, h2, h3⟩ := Blk.setCells vs o w C h
  refine ⟨C', h1, h2, fun i => ?_⟩
  rw [h3 i]
  by_cases hc : o ≤ i ∧ i < o + vs.length
  · rw [if_pos ⟨hc.1, hc.2, by omega⟩, if_pos hc]
  · rw [if_neg (fun h => hc ⟨h.1, h.2.1⟩), if_neg hc]
/-- The first ones of a list of spots are held. -/
def HeldS (w : World) (g n : Nat) (l : List Sp) : Prop := ∃ C : Array Value, Blk w g 35 C ∧ C.size = n * 3 ∧ ∀ (i : Nat) (x : Sp), l[i]? = some x → ∀ (j : Nat) (u : Value), (spL x)[j]? = some u → C[i * 3 + j]? = some u
theorem HeldS.at_ {w : World} {g n : Nat} {l : List Sp} (h : HeldS w g n l) (hl : l.length = n) : SpAt w w.heap.size (some ⟨g, 0, none⟩) n l := by
  obtain ⟨C, h1, h2, h3⟩ := h
  refine ⟨by simpa using hl, fun c hc => by obtain ⟨x, _, rfl⟩ := List.mem_map.1 hc; rfl, fun _ => ⟨g, 0, rfl, h1.lt, fun i c hi j u hu => ?_⟩⟩
  rw [List.getElem?_map] at hi
  obtain ⟨x, hx, rfl⟩ := Option.map_eq_some_iff.1 hi
  rw [Nat.zero_add, h1.cell]
  exact h3 i x hx j u hu
theorem HeldS.tch {w w' : World} {g n : Nat} {l : List Sp} (h : HeldS w g n l) {B : Nat} (hb : Below B w w') (hg : g < B) : HeldS w' g n l := by
  obtain ⟨C, h1, h2, h3⟩ := h
  exact ⟨C, h1.below hb hg, h2, h3⟩
theorem HeldS.put {w : World} {g n k : Nat} {l : List Sp} {x : Sp} (h : HeldS w g n l) (hl : l.length = k) (hk : k < n) : HeldS (w.setCells g (k * 3) (spC x).toList) g n (l ++ [x]) := by
  obtain ⟨C, h1, h2, h3⟩ := h
  obtain ⟨C', e1, e2, e3⟩ := blk_mid h1 (k * 3) (spC x).toList (by rw [h2]; show k * 3 + 3 ≤ _; omega)
  refine ⟨C', e1, by rw [e2, h2], fun i y hy j u hu => ?_⟩
  have hj : j < 3 := (List.getElem?_eq_some_iff.1 hu).1
  rw [e3]
  by_cases hi : i < k
  · rw [if_neg (by show ¬ (_ ∧ _ < _ + 3); omega)]
    rw [List.getElem?_append_left (by omega)] at hy
    exact h3 i y hy j u hu
  · rw [List.getElem?_append_right (by omega), hl] at hy
    have h0 : i - k = 0 := by
      by_cases h0 : i - k = 0
      · exact h0
      · rw [List.getElem?_eq_none (by simp; omega)] at hy; cases hy
    rw [h0] at hy
    injection hy with hy
    subst hy
    obtain rfl : i = k := by omega
    rw [if_pos ⟨by omega, by show _ < _ + 3; omega⟩, show i * 3 + j - i * 3 = j by omega]
    exact hu
theorem HeldS.store {w : World} {g n k : Nat} {l : List Sp} (x : Sp) (h : HeldS w g n l) (hk : k < n) : (Instr.storeAt 35 (.pointer (some ⟨g, 0 + k * 3, none⟩)) (spV x)).run Try.prog w = .ok () (w.setCells g (k * 3) (spC x).toList) := by
  obtain ⟨C, h1, h2, h3⟩ := h
  rw [Nat.zero_add]
  exact row_store_mid h1 (k * 3) (spC x) (by rw [h2]; show k * 3 + 3 ≤ _; omega) spotTK (by simp [spC, Value.oneCell'])
theorem sp_loadB {w : World} {b o : Nat} {x : Sp} (h : w.rangeAt b o (spL x)) : (Instr.loadAt 35 (.pointer (some ⟨b, o, none⟩))).run Try.prog w = .ok (spV x) w := range_load (xs := spC x) h Try.underlying35 rfl spotTK
theorem spB_put (W : World) (x : Sp) : (Instr.storeAt 35 (.pointer (some ⟨W.heap.size, 0, none⟩)) (.agg (spC x))).run Try.prog (W.alloc (.cells #[.int .u64 0, .int .u64 0, .int .i64 0] 35)) = .ok () ((W.alloc (.cells #[.int .u64 0, .int .u64 0, .int .i64 0] 35)).setCells W.heap.size 0 (spC x).toList) :=
  row_store (Blk.new W 35 #[.int .u64 0, .int .u64 0, .int .i64 0]) (spC x) rfl spotTK (by simp [spC, Value.oneCell'])
theorem spB_blk (W : World) (x : Sp) : Blk ((W.alloc (.cells #[.int .u64 0, .int .u64 0, .int .i64 0] 35)).setCells W.heap.size 0 (spC x).toList) W.heap.size 35 (spC x) :=
  (Blk.new W 35 #[.int .u64 0, .int .u64 0, .int .i64 0]).put _ rfl
theorem spB_load {w : World} {b t : Nat} {x : Sp} (h : Blk w b t (spC x)) : (Instr.loadAt 35 (.pointer (some ⟨b, 0, none⟩))).run Try.prog w = .ok (.agg (spC x)) w :=
  range_load (xs := spC x) h.range Try.underlying35 rfl spotTK
theorem flatS_appC (a b : List Sp) : flatS (a ++ b) = flatS a ++ flatS b := by unfold flatS; rw [List.map_append, List.flatten_append]
theorem run_spotK (w : World) (x : Sp) : (Instr.buildSlice 25 1 #[(0, spV x)]).run Try.prog w = .ok (.slice (some ⟨w.heap.size, 0, none⟩) 1 1) (w.alloc (.cells (spC x) 35)) := by
  obtain ⟨i, hi, hz, hz1, hz2⟩ := info_parts info_spotK
  refine Go.run_buildSlice w _ _ 1 _ _ i (.agg #[.int .u64 0, .int .u64 0, .int .i64 0]) Try.underlying25 hi hz (by rw [hz1]; decide) (by rw [hz1]; decide) ?_
  rw [hz1]; kernel_rfl
theorem exec_spotK {o : Oper} {a : Act} {x : Sp} {parts : Array (Nat × Operand)} (ho : o.op = .buildSlice 25 1 parts) (hp : (parts.map fun (i, y) => (i, a.eval y)) = #[(0, spV x)]) (w : World) : (execOp a.eval o).run Try.prog w = .ok (.value (.slice (some ⟨w.heap.size, 0, none⟩) 1 1)) (w.alloc (.cells (spC x) 35)) := by
  unfold execOp
  simp only [ho, hp, Sem.run_bind, run_spotK, Result.andThen_ok]
  rfl
/-- A struct and a temporary, returned. -/
def spZ0 : Array Value := #[.int .u64 0, .int .u64 0, .int .i64 0]
theorem results_row11K {P : Program} {fn : Func} {p u : Tmp} {t1 : TypeId} (h : fn.results = #[.cell p t1, .tmp u]) (tmps : Array Value) {w : World} {g1 : Nat} {c1 : Array Value} {d1 : TypeDesc}
    (hp : tmps.getD p undef = .pointer (some ⟨g1, 0, none⟩)) {u1 : Nat} (b1 : Blk w g1 u1 c1)
    (hu1 : P.underlying t1 = some d1) (hd1 : (match d1 with | .struct _ | .array _ _ => true | _ => false) = true) (hi1 : (P.info? t1).map (·.size) = some c1.size) :
    (results fn tmps).run P w = .ok (.tuple #[.agg c1, tmps.getD u undef]) w := by
  have hp' : tmps[p]?.getD undef = .pointer (some ⟨g1, 0, none⟩) := by simpa using hp
  simp [results, h, hp', asAddr, run_loadVar_row w g1 u1 t1 c1 (0, 0) d1 b1 hu1 hd1 hi1, Result.andThen]
end Go.Proofs.Ytpcbfoddlpgdjaa
