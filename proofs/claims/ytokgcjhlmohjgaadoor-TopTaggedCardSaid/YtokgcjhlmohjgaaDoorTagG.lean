/- A text read by the program. -/
import Derived.Test.YtokgcjhlmohjgaaDoorTagF
import Derived.Test.YtokgcjhlmohjgaaDoorTagE
import Derived.Test.YtokgcjhlmohjgaaDoorBitW
import Derived.Maps.AppendAt
namespace Go.Proofs.YtokgcjhlmohjgaaDoor
open Go.RowKit Go.Shelf
theorem wpListIn_push {F : Fence} {nn : Nat} {P : Program} {ops : Array Oper} {rest : List Oper} {o : Oper} {a : Act} {Q : Exit → Act → World → Prop} (hgd : o.guard = none) (s x : Operand) (t : TypeId)
    (ho : o.op = .call { callee := .builtin .append, args := #[s, x], argTypes := #[t, t] })
    (base : Nat) (e : TypeId) (kd : IntKind) (bytes : Nat) (hb8 : bytes ≤ 8) (ht : P.underlying t = some (.slice e)) (hinfo : (P.info? e).map (fun i => (i.zero, i.size, i.bytes)) = some (some (.int kd 0), 1, bytes))
    (wr : World) (A : Option Addr) (n c : Nat) (zs : List Int) (u : Int) (hs : a.eval s = .slice A n c) (hown : wr.ownsRow base e 1 (.slice A n c) n (zs.map (.int kd)))
    (hx : a.eval x = .slice (some ⟨wr.heap.size, 0, none⟩) 1 1) (hn : n ≤ 1099511627776) (hbase : base ≤ wr.heap.size)
    (h : ∀ g c' w', w'.ownsRow base e 1 (.slice (some ⟨g, 0, none⟩) (n + 1) c') (n + 1) ((zs ++ [u]).map (.int kd)) → Below base wr w' → KeepsOthers wr w' → wpListIn F nn P ops Q rest (a.put o.dst (.slice (some ⟨g, 0, none⟩) (n + 1) c')) w') :
    wpListIn F nn P ops Q (o :: rest) a (wr.alloc (.cells #[.int kd u] e)) := by
  obtain ⟨i, hi, hz, hz1, hz2⟩ := info_parts hinfo
  have hb2 : (n + 1) * bytes ≤ (n + 1) * 8 := Nat.mul_le_mul_left _ hb8
  refine wpListIn_append_own (wr.alloc (.cells #[.int kd u] e)) hgd s x t ho base e i (.int kd 0) 1 bytes ht hi hz hz1 hz2 rfl (by omega) _ n (zs.map (.int kd)) hs (hown.alloc _) ⟨wr.heap.size, 0, none⟩ 1 1 [.int kd u] hx rfl
    (cell_one_new _ _ _) (by intro v hv; simp at hv; subst hv; rfl) (by unfold maxLen; omega) (by omega) (by simp; omega) ?_
  intro v' w' hown' hg _
  obtain ⟨g', cap', rfl⟩ := ownsRow_succ hown'
  refine h g' cap' w' (by simpa using hown') (((Below.refl base wr).alloc hbase _).grown hg (by simp; omega) fun k hk => (hown.lt k hk).1) ?_
  refine (KeepsOthers.alloc wr _).trans (KeepsOthers.of_grownBy hg fun j o ej hj => ?_)
  rcases (hown.alloc (.cells #[.int kd u] e)).2 with ⟨e', _⟩ | ⟨g, cap, cur, e', _, hgb, _⟩
  · cases e'; simp [Value.ownBlock] at ej
  · rw [e'] at ej
    obtain rfl : g = j := by simpa [Value.ownBlock] using ej
    rw [hgb] at hj; cases hj; rfl
/-- The boxes of the table and of the two results. -/
structure PB (W : World) (N : Nat) (A : Option Addr) (n c m : Nat) (y : Int) : Prop where
  t : Boxed W N 22 (.slice A n c)
  m : Boxed W (N + 1) 23 (.int .u64 m)
  y : Boxed W (N + 2) 25 (.int .i64 y)
theorem PB.keep {W W' : World} {N : Nat} {A : Option Addr} {n c m : Nat} {y : Int} (h : PB W N A n c m y) (hk : ∀ i, N ≤ i → i < N + 3 → W'.heap[i]? = W.heap[i]?) : PB W' N A n c m y :=
  ⟨(hk N (by omega) (by omega)).trans h.t, (hk (N + 1) (by omega) (by omega)).trans h.m, (hk (N + 2) (by omega) (by omega)).trans h.y⟩
theorem PB.below {W W' : World} {N B : Nat} {A : Option Addr} {n c m : Nat} {y : Int} (h : PB W N A n c m y) (hb : Below B W W') (hB : N + 3 ≤ B) : PB W' N A n c m y := h.keep fun i _ h2 => hb.block i (by omega)
/-- Between two rounds. -/
structure PIn (w : World) (N K : Nat) (A : Option Addr) (n c : Nat) (al : List Int) (k : Nat) (W : World) : Prop where
  b : PB W N A n c 0 0
  row : ∃ B d, Boxed W K 36 (.slice B k d) ∧ W.ownsRow (K + 4) 3 1 (.slice B k d) k ((al.take k).map (.int .i64))
  bel : Below N w W
  lo : ∀ q, q < k → 0 ≤ ig al q
  sz : K + 4 ≤ W.heap.size
theorem PIn.keep {w W W' : World} {N K : Nat} {A : Option Addr} {n c : Nat} {al : List Int} {k : Nat} (h : PIn w N K A n c al k W) (hNK : N + 3 ≤ K) (hb : Below N W W') (hk : ∀ i, i ≤ K → W'.heap[i]? = W.heap[i]?)
    (hr : ∀ B d, W.ownsRow (K + 4) 3 1 (.slice B k d) k ((al.take k).map (.int .i64)) → W'.ownsRow (K + 4) 3 1 (.slice B k d) k ((al.take k).map (.int .i64))) : PIn w N K A n c al k W' := by
  obtain ⟨B, d, h1, h2⟩ := h.row
  exact ⟨h.b.keep fun i _ _ => hk i (by omega), ⟨B, d, (hk K (by omega)).trans h1, hr _ _ h2⟩, h.bel.trans hb, h.lo, by have := h.sz; have := hb.size; omega⟩
theorem own_far {W W' : World} {base e : Nat} {B : Option Addr} {k d : Nat} {xs : List Value} (h : W.ownsRow base e 1 (.slice B k d) k xs) {b : Nat} (hg : W.grownBy W' (some b)) (hb : b < base) : W'.ownsRow base e 1 (.slice B k d) k xs := by
  refine h.kept hg ?_
  rcases h.2 with ⟨e', _⟩ | ⟨g, cap, cur, e', hge, _⟩
  · exact .inl (by rw [e']; rfl)
  · refine .inr fun ej => ?_
    rw [e'] at ej
    have : g = b := by simpa [Value.ownBlock] using ej
    omega
theorem PIn.set_ {w W : World} {N K : Nat} {A : Option Addr} {n c : Nat} {al : List Int} {k : Nat} (h : PIn w N K A n c al k W) (hNK : N + 3 ≤ K) (v : Value) : PIn w N K A n c al k (W.setCell ⟨K + 1, 0, none⟩ v) :=
  h.keep hNK ((Below.refl N W).setCell (p := ⟨K + 1, 0, none⟩) (by show N ≤ K + 1; omega) v) (fun i hi => Below.heap_setCell W _ v i (by show i ≠ K + 1; omega)) fun B d hr => own_far hr (grownBy_setCell' W (K + 1) v) (by omega)
theorem PIn.alloc {w W : World} {N K : Nat} {A : Option Addr} {n c : Nat} {al : List Int} {k : Nat} (h : PIn w N K A n c al k W) (hNK : N + 3 ≤ K) (o : Obj) : PIn w N K A n c al k (W.alloc o) :=
  h.keep hNK ((Below.refl N W).alloc (by have := h.sz; omega) o) (fun i hi => Below.heap_alloc W o i (by have := h.sz; omega)) fun B d hr => hr.alloc o
theorem PIn.putObj {w W : World} {N K : Nat} {A : Option Addr} {n c : Nat} {al : List Int} {k l : Nat} {o : Obj} (o' : Obj) (h : PIn w N K A n c al k W) (hNK : N + 3 ≤ K) (hl : K + 4 ≤ l) (ho : W.heap[l]? = some o) (hc : o.isCells = false) : PIn w N K A n c al k (W.putObj l o') :=
  h.keep hNK ((Below.refl N W).grown (grownBy_putObj' W l o') (by have := h.sz; omega) (fun k e => by cases e; omega)) (fun i hi => World.putObj_heap_other (by omega)) fun B d hr => ownsRow_putObj hr o' ho hc
theorem run_load1 {P : Program} {T : TypeId} {a : Addr} {v : Value} {W : World} (ha : (isAgg T).run P W = .ok false W) (hc : W.cell? a = some v) : (loadVar T a).run P W = .ok v W := by
  simp [loadVar, Sem.run_bind, ha, Result.andThen, run_load, hc]
theorem results_two {P : Program} {fn : Func} {p q : Tmp} {T1 T2 : TypeId} (h : fn.results = #[ResultVar.cell p T1, ResultVar.cell q T2]) (tmps : Array Value) (W : World) {a1 a2 : Addr} {u v : Value}
    (e1 : tmps.getD p undef = .pointer (some a1)) (e2 : tmps.getD q undef = .pointer (some a2)) (h1 : (isAgg T1).run P W = .ok false W) (h2 : (isAgg T2).run P W = .ok false W)
    (c1 : W.cell? a1 = some u) (c2 : W.cell? a2 = some v) : (results fn tmps).run P W = .ok (.tuple #[u, v]) W := by
  have e1' : tmps[p]?.getD undef = .pointer (some a1) := by simpa using e1
  have e2' : tmps[q]?.getD undef = .pointer (some a2) := by simpa using e2
  simp [results, h, Sem.run_bind, Result.andThen, e1', e2', asAddr, run_load1 h1 c1, run_load1 h2 c2]
theorem leave_cells {P : Program} {fn : Func} {F : Fence} {nn : Nat} {R : Ending → World → Prop} {tmps : Array Value} {W : World} {D p q : Nat} {T1 T2 : TypeId} {a1 a2 : Addr} {u v : Value}
    (hres : fn.results = #[ResultVar.cell p T1, ResultVar.cell q T2]) (hK : W.heap[D]? = some (.deferred (some [])))
    (e1 : tmps.getD p undef = .pointer (some a1)) (e2 : tmps.getD q undef = .pointer (some a2)) (h1 : ∀ W, (isAgg T1).run P W = .ok false W) (h2 : ∀ W, (isAgg T2).run P W = .ok false W)
    (c1 : W.cell? a1 = some u) (c2 : W.cell? a2 = some v) (hR : R (.returned (.tuple #[u, v])) (W.putObj D (.deferred none))) :
    bodyPostM F nn P fn R .ret { tmps := tmps, defers := [{ target := .collected D, args := #[] }] } W := by
  have k1 : (W.putObj D (.deferred none)).cell? a1 = some u := cell_kept c1 (grownBy_putObj' W D (.deferred none)) fun r e => by cases e; exact ⟨_, hK, rfl⟩
  have k2 : (W.putObj D (.deferred none)).cell? a2 = some v := cell_kept c2 (grownBy_putObj' W D (.deferred none)) fun r e => by cases e; exact ⟨_, hK, rfl⟩
  exact ⟨by simp, .inl ⟨_, _, rfl, run_takeDeferred hK, _, results_two hres tmps _ e1 e2 (h1 _) (h2 _) k1 k2, hR⟩⟩
theorem PB.put {W : World} {N : Nat} {A : Option Addr} {n c m : Nat} {y : Int} (h : PB W N A n c m y) (m' : Nat) (y' : Int) : PB ((W.setCell ⟨N + 1, 0, none⟩ (.int .u64 m')).setCell ⟨N + 2, 0, none⟩ (.int .i64 y')) N A n c m' y' :=
  ⟨(Below.heap_setCell _ _ _ N (by show N ≠ N + 2; omega)).trans ((Below.heap_setCell _ _ _ N (by show N ≠ N + 1; omega)).trans h.t), (Below.heap_setCell _ _ _ (N + 1) (by show N + 1 ≠ N + 2; omega)).trans (h.m.set _),
    Boxed.set _ ((Below.heap_setCell _ _ _ (N + 2) (by show N + 2 ≠ N + 1; omega)).trans h.y)⟩
set_option maxRecDepth 100000 in
set_option maxHeartbeats 1000000 in
theorem tag_parse_early (A : Option Addr) (n c : Nat) (ts : List (List Int)) (hall : ∀ t ∈ ts, Bytes t) (hsz : ∀ t ∈ ts, t.length ≤ 9223372036854775807) (s : List Int) (hs : Bytes s) (w : World) (hr : Rd w w.heap.size A n (ts.map fun t => .string (strOfNums t))) (h : chkE ts ≠ 0 ∨ s = []) :
    Calls Tryd.prog 11 #[.slice A n c, .string (strOfNums s)] w fun e w' => e = .returned (.tuple #[.int .u64 (prsM ts s), .int .i64 (prsW ts s)]) ∧ Below w.heap.size w w' := by
  have hC : ∀ W, Below w.heap.size w W → Calls Tryd.prog 13 #[.slice A n c] W fun e w' => e = .returned (.int .i64 (chkE ts)) ∧ Below W.heap.size W w' := fun W hb => tag_check A n c ts hall hsz W ((hr.below hb).more hb.size)
  have HC := Lib.hid hC
  have hes := str_ne s hs
  obtain ⟨z, hz⟩ : ∃ z, chkE ts = z := ⟨_, rfl⟩
  have hB3 : Below w.heap.size w (((w.alloc (.cells #[.slice A n c] 22)).alloc (.cells #[.int .u64 0] 23)).alloc (.cells #[.int .i64 0] 25)) := (((Below.refl _ w).alloc (Nat.le_refl _) _).alloc (by simp) _).alloc (by simp; omega) _
  have HB3 := Lib.hid hB3
  have hCC := Lib.hid (hC _ hB3)
  rw [hz] at hCC
  clear hC hB3 hr hall hsz
  have b1 := Boxed.new w 22 (.slice A n c)
  have b2 := Boxed.new (w.alloc (.cells #[.slice A n c] 22)) 23 (.int .u64 0)
  have b3 := Boxed.new ((w.alloc (.cells #[.slice A n c] 22)).alloc (.cells #[.int .u64 0] 23)) 25 (.int .i64 0)
  rw [World.size_alloc] at b2 b3
  rw [World.size_alloc] at b3
  have HPB : Hid (PB (((w.alloc (.cells #[.slice A n c] 22)).alloc (.cells #[.int .u64 0] 23)).alloc (.cells #[.int .i64 0] 25)) w.heap.size A n c 0 0) := ⟨(b1.alloc _).alloc _, b2.alloc _, b3⟩
  clear b1 b2 b3
  have HF : Hid (prsM ts s = 0 ∧ prsW ts s = z) := by
    show _ ∧ _
    by_cases hz0 : chkE ts = 0
    · obtain rfl : s = [] := h.resolve_left (fun q => q hz0)
      have := prs_ok (s := []) hz0 (fun k hk => by simp [atsE, partsE] at hk) (by simp [atsE, partsE]) (by rfl)
      rw [this.1, this.2, ← hz, hz0]
      exact ⟨rfl, rfl⟩
    · have := prs_chk (s := s) hz0
      rw [this.1, this.2, ← hz]
      exact ⟨rfl, rfl⟩
  have h' : z ≠ 0 ∨ s = [] := by rw [← hz]; exact h
  clear hz h
  have htl : z = 0 → ((strOfNums s).toList == ([] : List UInt8)) = true := fun e => by
    obtain rfl := h'.resolve_left (fun q => q e)
    rw [hes]; rfl
  have hie : z = 0 → (strOfNums s).toList.isEmpty = true := fun e => by
    have := htl e
    cases h : (strOfNums s).toList with
    | nil => rfl
    | cons _ _ => rw [h] at this; cases this
  clear hes h'
  by_cases h0 : z = 0
  · subst h0
    have t1 := htl rfl
    have t2 := hie rfl
    clear htl hie
    go_enter Tryd.func11, Tryd.ntmps11
    go_wp2_with fail
    refine hCC.out.mono ?_
    rintro e w1 ⟨rfl, hb1⟩
    have hp := HPB.out.below hb1 (by simp)
    have g1 := hp.m.cell
    have g2 := hp.y.cell
    have g3 := hp.m.frozen
    have g4 := hp.y.frozen
    have HB1 := Lib.hid hb1
    clear hb1
    go_wp2_with fail
    have hp2 := hp.put 0 0
    refine bodyPost_ret (results_two (a1 := ⟨w.heap.size + 1, 0, none⟩) (a2 := ⟨w.heap.size + 2, 0, none⟩) Tryd.results11 _ _ rfl rfl (Tryd.isAgg23 _) (Tryd.isAgg25 _) hp2.m.cell hp2.y.cell) rfl ?_
    rw [HF.out.1, HF.out.2]
    exact ⟨rfl, ((HB3.out.trans (HB1.out.mono (by simp; omega))).setCell (by simp) _).setCell (by simp; omega) _⟩
  · have t0 : (z != 0) = true := bne_iff_ne.2 h0
    clear htl hie
    go_enter Tryd.func11, Tryd.ntmps11
    go_wp2_with fail
    refine hCC.out.mono ?_
    rintro e w1 ⟨rfl, hb1⟩
    have hp := HPB.out.below hb1 (by simp)
    have g1 := hp.m.cell
    have g2 := hp.y.cell
    have g3 := hp.m.frozen
    have g4 := hp.y.frozen
    have HB1 := Lib.hid hb1
    clear hb1
    go_wp2_with fail
    have hp2 := hp.put 0 z
    refine bodyPost_ret (results_two (a1 := ⟨w.heap.size + 1, 0, none⟩) (a2 := ⟨w.heap.size + 2, 0, none⟩) Tryd.results11 _ _ rfl rfl (Tryd.isAgg23 _) (Tryd.isAgg25 _) hp2.m.cell hp2.y.cell) rfl ?_
    rw [HF.out.1, HF.out.2]
    exact ⟨rfl, ((HB3.out.trans (HB1.out.mono (by simp; omega))).setCell (by simp) _).setCell (by simp; omega) _⟩
end Go.Proofs.YtokgcjhlmohjgaaDoor
