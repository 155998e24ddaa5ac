/- What may be used again: Free. The row of what is in limbo, the list that is told, the closure. -/
import Derived.Test.YtgcoecibhonfnaaEpC
namespace Go.Proofs.Ytgcoecibhonfnaa
open Go.RowKit
/-- A row of D cells, of which the first are cs. -/
def RW (w : World) (g t D : Nat) (cs : List Int) : Prop := ∃ rest : List Value, w.heap[g]? = some (.cells (cs.map (Value.int .i64) ++ rest).toArray t (0, 0)) ∧ cs.length + rest.length = D
section
variable {w w' : World} {g t D : Nat} {cs : List Int}
theorem RW.ib (h : RW w g t D cs) : IB w g t .i64 cs := ⟨h.choose, h.choose_spec.1⟩
theorem RW.set_ (h : RW w g t D cs) {k : Nat} (hk : k < cs.length) (u : Int) : RW (w.setCell ⟨g, k, none⟩ (.int .i64 u)) g t D (cs.set k u) := by
  obtain ⟨rest, h1, h2⟩ := h
  refine ⟨rest, ?_, by simpa using h2⟩
  rw [heap_setCell_same w g k _ t _ h1]
  congr 2
  apply Array.ext'
  simp only [Array.toList_setIfInBounds, List.map_set]
  rw [List.set_append_left _ _ (by simpa using hk)]
theorem RW.at_ (h : RW w g t D cs) (hb : w'.heap[g]? = w.heap[g]?) : RW w' g t D cs := by
  obtain ⟨rest, h1, h2⟩ := h
  exact ⟨rest, hb.trans h1, h2⟩
theorem RW.of_own {base n d : Nat} {fl : List Int} (h : w.ownsRow base t 2 (.slice (some ⟨g, 0, none⟩) n d) n (fl.map (.int .i64))) : RW w g t (d * 2) fl ∧ base ≤ g ∧ n ≤ d ∧ d ≤ maxLen := by
  rcases h.2 with ⟨h1, _⟩ | ⟨g', cap, cur, h1, h2, h3, h4, h5, h6, h7⟩
  · cases h1
  · injection h1 with h1 _ h1'
    injection h1 with h1
    injection h1 with h1
    subst h1 h1'
    refine ⟨⟨cur.toList.drop (n * 2), ?_, ?_⟩, h2, h4, h5⟩
    · rw [h3, ← h7, List.take_append_drop]
    · have hl : fl.length = n * 2 := by simpa using h.1
      rw [List.length_drop, hl, Array.length_toList, h6]
      omega
theorem RW.to_own {base i d : Nat} (h : RW w g t (d * 2) cs) (hg : base ≤ g) (hi : i ≤ d) (hd : d ≤ maxLen) (hcs : i * 2 ≤ cs.length) : w.ownsRow base t 2 (.slice (some ⟨g, 0, none⟩) i d) i ((cs.take (i * 2)).map (.int .i64)) := by
  obtain ⟨rest, h1, h2⟩ := h
  refine ⟨by simp; omega, Or.inr ⟨g, d, _, rfl, hg, h1, hi, hd, by simpa using h2, ?_⟩⟩
  simp only [List.map_take]
  rw [List.take_append_of_le_length (by simpa using hcs)]
end
/-- Which of the first k pairs may be used again; which stay; the slots of the first. -/
def ripe (fl : List Int) (ep : Int) (i : Nat) : Bool := decide (ig fl (i * 2 + 1) ≤ ep - 2)
def keptN (fl : List Int) (ep : Int) (k : Nat) : List Int := (List.range k).flatMap fun i => if ripe fl ep i then [] else [ig fl (i * 2), ig fl (i * 2 + 1)]
def outN (fl : List Int) (ep : Int) (k : Nat) : List Int := (List.range k).flatMap fun i => if ripe fl ep i then [ig fl (i * 2)] else []
theorem keptN_succ (fl : List Int) (ep : Int) (k : Nat) : keptN fl ep (k + 1) = keptN fl ep k ++ if ripe fl ep k then [] else [ig fl (k * 2), ig fl (k * 2 + 1)] := by
  unfold keptN; rw [List.range_succ, List.flatMap_append]; simp
theorem outN_succ (fl : List Int) (ep : Int) (k : Nat) : outN fl ep (k + 1) = outN fl ep k ++ if ripe fl ep k then [ig fl (k * 2)] else [] := by
  unfold outN; rw [List.range_succ, List.flatMap_append]; simp
/-- The list that Free tells, in its box. -/
def OutAt (w : World) (base bo : Nat) (outs : List Int) : Prop :=
  ∃ O n d, Blk w bo 28 #[.slice O n d] ∧ w.ownsRow base 3 1 (.slice O n d) n (outs.map (.int .i64)) ∧ n = outs.length
theorem OutAt.keep {w w' : World} {base bo : Nat} {outs : List Int} (h : OutAt w base bo outs) (hb : ∀ k, (k = bo ∨ base ≤ k) → k < w.heap.size → w'.heap[k]? = w.heap[k]?) : OutAt w' base bo outs := by
  obtain ⟨O, n, d, h1, h2, h3⟩ := h
  refine ⟨O, n, d, (hb bo (Or.inl rfl) h1.lt).trans h1, ⟨h2.1, ?_⟩, h3⟩
  rcases h2.2 with q | ⟨g, cap, cur, q1, q2, q3, q4⟩
  · exact Or.inl q
  · exact Or.inr ⟨g, cap, cur, q1, q2, (hb g (Or.inr q2) (Array.getElem?_eq_some_iff.1 q3).1).trans q3, q4⟩
/-- What the closure of Free touches. -/
def outS (base bo : Nat) (k : Nat) : Prop := k = bo ∨ base ≤ k
set_option maxRecDepth 100000 in
theorem free_cl_no (x g e : Int) (b c bo : Nat) (w : World) (hc : w.cell? ⟨b, 0, none⟩ = some (.pointer (some ⟨c, 0, none⟩))) (he : w.cell? ⟨c, 0, none⟩ = some (.int .i64 e)) (he0 : 0 ≤ e) (he1 : e ≤ 4611686018427387904) (hr : decide (g ≤ e - 2) = false) :
    Calls Try.prog 23 #[.agg #[.int .i64 x, .int .i64 g], .pointer (some ⟨b, 0, none⟩), .pointer (some ⟨bo, 0, none⟩)] w fun e w' => e = .returned (.bool false) ∧ Below w.heap.size w w' := by
  have hb0 : Below w.heap.size w (w.alloc (.cells #[.int .i64 x, .int .i64 g] 49)) := (Below.refl _ w).alloc (Nat.le_refl _) _
  have hc' : (w.alloc (.cells #[.int .i64 x, .int .i64 g] 49)).cell? ⟨b, 0, none⟩ = some (.pointer (some ⟨c, 0, none⟩)) := (hb0.cell (World.block_lt_of_cell? w _ hc)).trans hc
  have he' : (w.alloc (.cells #[.int .i64 x, .int .i64 g] 49)).cell? ⟨c, 0, none⟩ = some (.int .i64 e) := (hb0.cell (World.block_lt_of_cell? w _ he)).trans he
  have hv : ∀ k, (w.alloc (.cells #[.int .i64 x, .int .i64 g] 49)).cell? ⟨w.heap.size, k, none⟩ = #[Value.int .i64 x, .int .i64 g][k]? := fun k => (Blk.new w 49 #[.int .i64 x, .int .i64 g]).cell k
  have hv1 := hv 1
  have HB := Lib.hid hb0
  clear hc he hb0 hv
  go_enter Try.func23, Try.ntmps23
  go_wp2
  go_quiet (fail)
  go_wp2
  go_ret
  exact ⟨rfl, below_drewN HB.out _⟩
set_option maxRecDepth 100000 in
theorem free_cl_yes (x g e : Int) (b c bo base : Nat) (outs : List Int) (w : World) (hc : w.cell? ⟨b, 0, none⟩ = some (.pointer (some ⟨c, 0, none⟩))) (he : w.cell? ⟨c, 0, none⟩ = some (.int .i64 e)) (he0 : 0 ≤ e) (he1 : e ≤ 4611686018427387904) (hr : decide (g ≤ e - 2) = true)
    (ho : OutAt w base bo outs) (hbo : bo < base) (hbw : base ≤ w.heap.size) (hol : outs.length ≤ 1048576) :
    Calls Try.prog 23 #[.agg #[.int .i64 x, .int .i64 g], .pointer (some ⟨b, 0, none⟩), .pointer (some ⟨bo, 0, none⟩)] w fun e w' => e = .returned (.bool true) ∧ OutAt w' base bo (outs ++ [x]) ∧ Tch (outS base bo) w w' := by
  have hb0 : Below w.heap.size w (w.alloc (.cells #[.int .i64 x, .int .i64 g] 49)) := (Below.refl _ w).alloc (Nat.le_refl _) _
  have hc' : (w.alloc (.cells #[.int .i64 x, .int .i64 g] 49)).cell? ⟨b, 0, none⟩ = some (.pointer (some ⟨c, 0, none⟩)) := (hb0.cell (World.block_lt_of_cell? w _ hc)).trans hc
  have he' : (w.alloc (.cells #[.int .i64 x, .int .i64 g] 49)).cell? ⟨c, 0, none⟩ = some (.int .i64 e) := (hb0.cell (World.block_lt_of_cell? w _ he)).trans he
  have hv : ∀ k, (w.alloc (.cells #[.int .i64 x, .int .i64 g] 49)).cell? ⟨w.heap.size, k, none⟩ = #[Value.int .i64 x, .int .i64 g][k]? := fun k => (Blk.new w 49 #[.int .i64 x, .int .i64 g]).cell k
  have hv1 := hv 1
  have hv0 := hv 0
  obtain ⟨O, n, d, o1, o2, o3⟩ := ho.keep (fun k _ hk => hb0.block k hk)
  have co := o1.cell 0
  have HB := Lib.hid hb0
  have HO1 := Lib.hid o1
  have HO2 := Lib.hid o2
  have HO3 := Lib.hid o3
  have HW := Lib.hid hbw
  have HL : Hid (n ≤ 1099511627776) := by show _ ≤ _; omega
  have HBO := Lib.hid hbo
  have HS : Hid ((w.alloc (.cells #[.int .i64 x, .int .i64 g] 49)).heap.size = w.heap.size + 1) := by show _ = _; simp only [World.alloc, Array.size_push]
  clear hc he hb0 hv o1 o2 o3 ho hbw hol hbo
  go_enter Try.func23, Try.ntmps23
  go_wp2
  go_quiet (fail)
  go_wp2_with (at_builtin; refine wpList_push rfl (.tmp 15) (.tmp 18) _ rfl base 3 .i64 8 (by decide) Try.underlying28 info_int _ O n d outs x rfl HO2.out (congrArg (fun n => Value.slice (some ⟨n, 0, none⟩) 1 1) HS.out.symm) HL.out (Nat.le_trans HW.out HB.out.size) ?_; intro g' c' w' ho hb'; have hbk := (HO1.out.drewN _).below hb' HBO.out; have ck := hbk.cell 0; have fk := hbk.frozen 0; replace hbk := Lib.hid hbk; replace ho := Lib.hid ho; replace hb' := Lib.hid hb')
  go_ret
  refine ⟨rfl, ⟨_, _, _, hbk.out.set_ 0 _, ownsRow_setCell_below ho.out HBO.out _, by simp [HO3.out]⟩, ?_⟩
  have hT : Tch (outS base bo) w w' := ⟨hb'.out.os, hb'.out.tape, hb'.out.output, Nat.le_trans HB.out.size hb'.out.size, fun k hk hn => (hb'.out.block k (by unfold outS at hn; omega)).trans (HB.out.block k hk)⟩
  exact hT.setCell (Or.inl rfl) _ _
end Go.Proofs.Ytgcoecibhonfnaa
