/- Lists in memory: a slice that reads as a list; kept over draws, new blocks, and whatever leaves old blocks alone. -/
import Derived.Test.YtillmlaoppibfaaDoorBase
import Derived.Deep.Draws
import Derived.Deep.OwnRows
import Derived.Deep.RegionHeld3
import Derived.Laws.OwnMore
import Derived.Maps.AppendAt
import Derived.Deep.AppendLies
namespace Go.Proofs.YtillmlaoppibfaaDoor
open Go.RowKit

/-- An element of a list of integers: under a name, so that the walk leaves it as it is. -/
def ig (zs : List Int) (k : Nat) : Int := zs.getD k 0
/-- The slice at address A with n elements, one cell each, reads as the list xs; its cells lie below block B. -/
def Rd (w : World) (B : Nat) (A : Option Addr) (n : Nat) (xs : List Value) : Prop :=
  xs.length = n ∧ (0 < n → ∃ b o, A = some ⟨b, o, none⟩ ∧ b < B ∧ ∀ k u, xs[k]? = some u → w.cell? ⟨b, o + k, none⟩ = some u)
section
variable {w w' : World} {B B' n : Nat} {A : Option Addr} {xs : List Value}
theorem Rd.len (h : Rd w B A n xs) : xs.length = n := h.1
theorem Rd.keep (h : Rd w B A n xs) (hk : ∀ p : Addr, p.block < B → w'.cell? p = w.cell? p) : Rd w' B A n xs :=
  ⟨h.1, fun hn => let ⟨b, o, e, hb, hc⟩ := h.2 hn; ⟨b, o, e, hb, fun k u hu => (hk ⟨b, o + k, none⟩ hb).trans (hc k u hu)⟩⟩
theorem Rd.more (h : Rd w B A n xs) (hB : B ≤ B') : Rd w B' A n xs :=
  ⟨h.1, fun hn => let ⟨b, o, e, hb, hc⟩ := h.2 hn; ⟨b, o, e, by omega, hc⟩⟩
theorem Rd.below (h : Rd w B A n xs) (hb : Below B w w') : Rd w' B A n xs := h.keep fun _ hp => hb.cell hp
theorem Rd.drewN (h : Rd w B A n xs) (k : Nat) : Rd (w.drewN k) B A n xs := h
theorem Rd.unN {k : Nat} (h : Rd (w.drewN k) B A n xs) : Rd w B A n xs := h
theorem Rd.nil_ : Rd w B none 0 [] := ⟨rfl, fun h => absurd h (by omega)⟩
theorem Rd.at_ (h : Rd w B A n xs) {k : Nat} (hk : k < n) : ∃ b o u, A = some ⟨b, o, none⟩ ∧ b < B ∧ xs[k]? = some u ∧ w.cell? ⟨b, o + k, none⟩ = some u := by
  obtain ⟨b, o, e, hb, hc⟩ := h.2 (by omega)
  have hl : k < xs.length := by have := h.1; omega
  exact ⟨b, o, xs[k], e, hb, List.getElem?_eq_getElem hl, hc k _ (List.getElem?_eq_getElem hl)⟩
/-- A list of integers of one kind in memory. -/
theorem Rd.atI {kd : IntKind} {zs : List Int} (h : Rd w B A n (zs.map (Value.int kd))) {k : Nat} (hk : k < n) :
    ∃ b o, A = some ⟨b, o, none⟩ ∧ b < B ∧ w.cell? ⟨b, o + k, none⟩ = some (.int kd (ig zs k)) := by
  obtain ⟨b, o, u, e, hb, hx, hc⟩ := h.at_ hk
  refine ⟨b, o, e, hb, ?_⟩
  rw [hc, ← hx, List.getElem?_map, ig, List.getD_eq_getElem?_getD]
  have hl : k < zs.length := by have := h.1; simp at this; omega
  rw [List.getElem?_eq_getElem hl]; rfl
theorem Rd.allI {kd : IntKind} {zs : List Int} (h : Rd w B A n (zs.map (Value.int kd))) (hn : 0 < n) :
    ∃ b o, A = some ⟨b, o, none⟩ ∧ b < B ∧ ∀ k, k < n → w.cell? ⟨b, o + k, none⟩ = some (.int kd (ig zs k)) := by
  obtain ⟨b, o, e, hb, _⟩ := h.2 hn
  refine ⟨b, o, e, hb, fun k hk => ?_⟩
  obtain ⟨b', o', e', _, hc⟩ := h.atI hk
  rw [e] at e'
  injection e' with e'
  injection e' with q1 q2
  subst q1; subst q2
  exact hc
theorem Rd.lenI {kd : IntKind} {zs : List Int} (h : Rd w B A n (zs.map (Value.int kd))) : zs.length = n := by simpa using h.1
theorem Rd.of_own {base : Nat} {e : TypeId} {c : Nat} (h : w.ownsRow base e 1 (.slice A n c) n xs) : Rd w w.heap.size A n xs := by
  refine ⟨by simpa using h.1, fun hn => ?_⟩
  obtain ⟨g, cap, hv, _, hlt⟩ := h.form hn
  have hA : A = some ⟨g, 0, none⟩ := by injection hv
  subst hA
  refine ⟨g, 0, rfl, hlt, fun k u hu => ?_⟩
  have hk : k < n * 1 := by have := h.1; have := (List.getElem?_eq_some_iff.1 hu).1; omega
  have hv' : (Value.slice (some ⟨g, 0, none⟩) n c) = .slice (some ⟨g, 0, none⟩) n cap := hv
  have := h.cellAt k hk
  rw [Nat.zero_add, this, hu]
end
/-- What a call that makes a list of integers says: the list, in memory; and that nothing older has turned. (A definition of its own, so that the walk's simp leaves it whole.) -/
def RetL (kd : IntKind) (zs : List Int) (w : World) (e : Ending) (w' : World) : Prop :=
  (∃ A c, e = .returned (.slice A zs.length c) ∧ zs.length ≤ c ∧ Rd w' w'.heap.size A zs.length (zs.map (.int kd))) ∧ Below w.heap.size w w'
/-- Block g, of element type t, begins with the integers cs; nothing of it is frozen. -/
def IB (w : World) (g t : Nat) (kd : IntKind) (cs : List Int) : Prop := ∃ rest : List Value, w.heap[g]? = some (.cells (cs.map (Value.int kd) ++ rest).toArray t (0, 0))
section
variable {w w' : World} {g t : Nat} {kd : IntKind} {cs : List Int}
theorem IB.lt (h : IB w g t kd cs) : g < w.heap.size := by
  obtain ⟨rest, h⟩ := h
  rcases Nat.lt_or_ge g w.heap.size with hlt | hge
  · exact hlt
  · rw [Array.getElem?_eq_none hge] at h; cases h
theorem IB.cell (h : IB w g t kd cs) {k : Nat} (hk : k < cs.length) : w.cell? ⟨g, k, none⟩ = some (.int kd (ig cs k)) := by
  obtain ⟨rest, h⟩ := h
  rw [cell_of_row w g k _ t (0, 0) h, List.getElem?_toArray, List.getElem?_append_left (by simpa using hk), List.getElem?_map, List.getElem?_eq_getElem hk, ig, List.getD_eq_getElem?_getD, List.getElem?_eq_getElem hk]
  rfl
theorem IB.frozen (h : IB w g t kd cs) (i : Nat) : w.frozen? ⟨g, i, none⟩ = false := by
  obtain ⟨rest, h⟩ := h
  simp [World.frozen?, h]
theorem IB.set_ (h : IB w g t kd cs) {k : Nat} (hk : k < cs.length) (u : Int) : IB (w.setCell ⟨g, k, none⟩ (.int kd u)) g t kd (cs.set k u) := by
  obtain ⟨rest, h⟩ := h
  refine ⟨rest, ?_⟩
  simp only [World.setCell, Array.getElem?_modify, h, if_true, Option.map_some]
  congr 2
  rw [List.setIfInBounds_toArray, List.set_append_left _ _ (by simpa using hk), List.map_set]
  rfl
theorem IB.drewN (h : IB w g t kd cs) (n : Nat) : IB (w.drewN n) g t kd cs := h
theorem IB.drew (h : IB w g t kd cs) : IB w.drew g t kd cs := h
theorem IB.below {B : Nat} (h : IB w g t kd cs) (hb : Below B w w') (hg : g < B) : IB w' g t kd cs := by
  obtain ⟨rest, h⟩ := h
  exact ⟨rest, (hb.block g hg).trans h⟩
theorem IB.made (w : World) (t n : Nat) (kd : IntKind) : IB (w.alloc (.cells (madeCells #[.int kd 0] n) t)) w.heap.size t kd (List.replicate n 0) := by
  refine ⟨[], ?_⟩
  rw [heap_alloc_new]
  have e := toList_madeCells_one (.int kd 0) n
  rw [List.append_nil, List.map_replicate, ← e]
theorem IB.rd (h : IB w g t kd cs) : Rd w w.heap.size (some ⟨g, 0, none⟩) cs.length (cs.map (.int kd)) := by
  refine ⟨by simp, fun _ => ⟨g, 0, rfl, h.lt, fun k u hu => ?_⟩⟩
  have hk : k < cs.length := by have := (List.getElem?_eq_some_iff.1 hu).1; simpa using this
  rw [Nat.zero_add, h.cell hk, ← hu, List.getElem?_map, List.getElem?_eq_getElem hk, ig, List.getD_eq_getElem?_getD, List.getElem?_eq_getElem hk]
  rfl
theorem IB.of_own {base n cap : Nat} (h : w.ownsRow base t 1 (.slice (some ⟨g, 0, none⟩) n cap) n (cs.map (Value.int kd))) : IB w g t kd cs := by
  rcases h.2 with ⟨h0, _⟩ | ⟨g', cap', cur, hv, _, hh, _, _, _, ht⟩
  · cases h0
  · injection hv with hv _ _
    injection hv with hv
    injection hv with hv
    subst hv
    refine ⟨cur.toList.drop (n * 1), ?_⟩
    rw [hh, ← ht, List.take_append_drop]
end
theorem ig_set {l : List Int} {k j : Nat} {u : Int} (hk : k < l.length) : ig (l.set k u) j = if k = j then u else ig l j := by
  simp only [ig, List.getD_eq_getElem?_getD, List.getElem?_set]
  split
  · rename_i h; subst h; simp
  · rfl
theorem below_drewN {B : Nat} {a w : World} (h : Below B a w) (n : Nat) : Below B a (w.drewN n) := ⟨h.os, h.tape, h.output, h.size, h.block⟩
theorem take_step {zs : List Int} {k : Nat} (hk : k < zs.length) : zs.take (k + 1) = zs.take k ++ [ig zs k] := by
  rw [ig, List.take_succ_eq_append_getElem hk, List.getD_eq_getElem?_getD, List.getElem?_eq_getElem hk]; rfl
/-- Two lists are one where each place is. -/
theorem ext_getD {xs ys : List Int} (hl : xs.length = ys.length) (h : ∀ k, k < xs.length → ig xs k = ig ys k) : xs = ys := by
  apply List.ext_getElem hl
  intro k h1 h2
  have := h k h1
  simpa [ig, List.getD_eq_getElem?_getD, List.getElem?_eq_getElem h1, List.getElem?_eq_getElem h2] using this

/-- Block g, of element type t, is just the cells cs; nothing of it is frozen. -/
def Blk (w : World) (g t : Nat) (cs : Array Value) : Prop := w.heap[g]? = some (.cells cs t (0, 0))
section
variable {w w' : World} {g t : Nat} {cs : Array Value}
theorem Blk.lt (h : Blk w g t cs) : g < w.heap.size := by
  rcases Nat.lt_or_ge g w.heap.size with q | q
  · exact q
  · unfold Blk at h; rw [Array.getElem?_eq_none q] at h; cases h
theorem Blk.cell (h : Blk w g t cs) (i : Nat) : w.cell? ⟨g, i, none⟩ = cs[i]? := cell_of_row w g i cs t (0, 0) h
theorem Blk.frozen (h : Blk w g t cs) (i : Nat) : w.frozen? ⟨g, i, none⟩ = false := frozen_of_row w g i cs t h
theorem Blk.set_ (h : Blk w g t cs) (i : Nat) (u : Value) : Blk (w.setCell ⟨g, i, none⟩ u) g t (cs.setIfInBounds i u) := heap_setCell_same w g i cs t u h
theorem Blk.below {B : Nat} (h : Blk w g t cs) (hb : Below B w w') (hg : g < B) : Blk w' g t cs := (hb.block g hg).trans h
theorem Blk.grown {row : Option Nat} (h : Blk w g t cs) (hb : w.grownBy w' row) (hg : some g ≠ row) : Blk w' g t cs := (hb.block g h.lt hg).trans h
theorem Blk.new (w : World) (t : Nat) (cs : Array Value) : Blk (w.alloc (.cells cs t)) w.heap.size t cs := heap_alloc_new w _
theorem Blk.alloc (h : Blk w g t cs) (o : Obj) : Blk (w.alloc o) g t cs := (Below.heap_alloc w o g h.lt).trans h
theorem Blk.far (h : Blk w g t cs) {p : Addr} (hp : g ≠ p.block) (u : Value) : Blk (w.setCell p u) g t cs := (Below.heap_setCell w p u g hp).trans h
theorem Blk.drewN (h : Blk w g t cs) (n : Nat) : Blk (w.drewN n) g t cs := h
end
theorem only_of_below {a w : World} (h : Below a.heap.size a w) (row : Option Nat) : a.grownBy w row := ⟨h.os, h.tape, h.output, h.size, fun i hi _ => h.block i hi⟩
theorem only_setCell {a w : World} {g : Nat} (h : a.grownBy w (some g)) (i : Nat) (u : Value) : a.grownBy (w.setCell ⟨g, i, none⟩ u) (some g) :=
  ⟨h.os, h.tape, h.output, by simpa [World.setCell] using h.size, fun k hk hne => (Below.heap_setCell w ⟨g, i, none⟩ u k (by rintro rfl; exact hne rfl)).trans (h.block k hk hne)⟩
theorem below_of_only {B g : Nat} {a w : World} (h : a.grownBy w (some g)) (hB : B ≤ a.heap.size) (hg : B ≤ g) : Below B a w :=
  ⟨h.os, h.tape, h.output, h.size, fun k hk => h.block k (by omega) (by intro e; injection e with e; omega)⟩
/-- An element of a list of bools: under a name. -/
def bg (bs : List Bool) (k : Nat) : Bool := bs.getD k false
/-- Block g, of element type t, begins with the bools bs; nothing of it is frozen. -/
def BB (w : World) (g t : Nat) (bs : List Bool) : Prop := ∃ rest : List Value, w.heap[g]? = some (.cells (bs.map Value.bool ++ rest).toArray t (0, 0))
section
variable {w w' : World} {g t : Nat} {bs : List Bool}
theorem BB.cell (h : BB w g t bs) {k : Nat} (hk : k < bs.length) : w.cell? ⟨g, k, none⟩ = some (.bool (bg bs k)) := by
  obtain ⟨rest, h⟩ := h
  rw [cell_of_row w g k _ t (0, 0) h, List.getElem?_toArray, List.getElem?_append_left (by simpa using hk), List.getElem?_map, List.getElem?_eq_getElem hk, bg, List.getD_eq_getElem?_getD, List.getElem?_eq_getElem hk]
  rfl
theorem BB.frozen (h : BB w g t bs) (i : Nat) : w.frozen? ⟨g, i, none⟩ = false := by
  obtain ⟨rest, h⟩ := h
  simp [World.frozen?, h]
theorem BB.set_ (h : BB w g t bs) {k : Nat} (hk : k < bs.length) (u : Bool) : BB (w.setCell ⟨g, k, none⟩ (.bool u)) g t (bs.set k u) := by
  obtain ⟨rest, h⟩ := h
  refine ⟨rest, ?_⟩
  simp only [World.setCell, Array.getElem?_modify, h, if_true, Option.map_some]
  congr 2
  rw [List.setIfInBounds_toArray, List.set_append_left _ _ (by simpa using hk), List.map_set]
  rfl
theorem BB.below {B : Nat} (h : BB w g t bs) (hb : Below B w w') (hg : g < B) : BB w' g t bs := by
  obtain ⟨rest, h⟩ := h
  exact ⟨rest, (hb.block g hg).trans h⟩
theorem BB.made (w : World) (t n : Nat) : BB (w.alloc (.cells (madeCells #[.bool false] n) t)) w.heap.size t (List.replicate n false) := by
  refine ⟨[], ?_⟩
  rw [heap_alloc_new]
  have e := toList_madeCells_one (.bool false) n
  rw [List.append_nil, List.map_replicate, ← e]
end
theorem bg_set {l : List Bool} {k j : Nat} {u : Bool} (hk : k < l.length) : bg (l.set k u) j = if k = j then u else bg l j := by
  simp only [bg, List.getD_eq_getElem?_getD, List.getElem?_set]
  split
  · rename_i h; subst h; simp
  · rfl
/-- 'out = append(out, u)' on a list of integers that the call has made: the list with u behind it; nothing below 'base' turns. -/
theorem wpList_push {P : Program} {ops : Array Oper} {rest : List Oper} {o : Oper} {a : Act} {Q : Exit → Act → World → Prop} (hgd : o.guard = none) (s x : Operand) (t : TypeId)
    (ho : o.op = .call { callee := .builtin .append, args := #[s, x], argTypes := #[t, t] })
    (base : Nat) (e : TypeId) (kd : IntKind) (bytes : Nat) (hb8 : bytes ≤ 8) (ht : P.underlying t = some (.slice e)) (hinfo : (P.info? e).map (fun i => (i.zero, i.size, i.bytes)) = some (some (.int kd 0), 1, bytes))
    (wr : World) (A : Option Addr) (n c : Nat) (zs : List Int) (u : Int) (hs : a.eval s = .slice A n c) (hown : wr.ownsRow base e 1 (.slice A n c) n (zs.map (.int kd)))
    (hx : a.eval x = .slice (some ⟨wr.heap.size, 0, none⟩) 1 1) (hn : n ≤ 1099511627776) (hbase : base ≤ wr.heap.size)
    (h : ∀ g c' w', w'.ownsRow base e 1 (.slice (some ⟨g, 0, none⟩) (n + 1) c') (n + 1) ((zs ++ [u]).map (.int kd)) → Below base wr w' → wpList P ops Q rest (a.put o.dst (.slice (some ⟨g, 0, none⟩) (n + 1) c')) w') :
    wpList P ops Q (o :: rest) a (wr.alloc (.cells #[.int kd u] e)) := by
  obtain ⟨i, hi, hz, hz1, hz2⟩ := info_parts hinfo
  have hb2 : (n + 1) * bytes ≤ (n + 1) * 8 := Nat.mul_le_mul_left _ hb8
  refine wpList_append_lies (wr.alloc (.cells #[.int kd u] e)) hgd s x t ho base e i (.int kd 0) 1 bytes ht hi hz hz1 hz2 rfl (by omega) _ n (zs.map (.int kd)) hs (hown.alloc _) ⟨wr.heap.size, 0, none⟩ 1 1 [.int kd u] hx rfl
    (cell_one_new _ _ _) (by intro v hv; simp at hv; subst hv; rfl) (by omega) (by unfold maxLen; omega) (by omega) (by simp; omega) _ rfl ?_
  intro g cap w' hown' hg hat hlt
  refine h g cap w' (by simpa using hown') ?_
  exact ((Below.refl base wr).alloc hbase _).grown hg (by simp; omega) fun k hk => (hown.lt k hk).1
end Go.Proofs.YtillmlaoppibfaaDoor
