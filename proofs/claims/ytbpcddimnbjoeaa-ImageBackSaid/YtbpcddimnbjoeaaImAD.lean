/- Images: the writer; sums; the document's num. Merged of ImA ImB ImC ImD. -/
import Derived.Test.YtbpcddimnbjoeaaLitW
import Derived.Lib.FrozenHead
import Derived.Shelf.Strings.Builder1
import Derived.Lib.Hide
import Derived.Lib.AppendStr
import Derived.Test.YtbpcddimnbjoeaaYlP
import Derived.Test.YtbpcddimnbjoeaaRow
import Derived.Deep.RegionHeld
import Derived.WalkKit
import Derived.Deep.Cut
import Derived.Deep.QuietTactic
import Derived.BigQuiet
import Derived.Test.YtbpcddimnbjoeaaPackAll
import Derived.Test.YtbpcddimnbjoeaaPlB
namespace Go.Proofs.Ytbpcddimnbjoeaa
open Go.RowKit
/-- A writer in block b: it has l. -/
def BwS (w : World) (B b : Nat) (l : List Int) : Prop := Lib.IsBuilderF 50 5 B b (Lib.strCells (strOfNums l)) w
def BwU (w : World) (B b : Nat) (l : List Int) : Prop := Lib.BuilderAtF 50 5 B b (.pointer (some ⟨b, 0, none⟩)) (Lib.strCells (strOfNums l)) w
theorem BwU.s {w : World} {B b : Nat} {l : List Int} (h : BwU w B b l) : BwS w B b l := .inr h
theorem info_bld : (Try.prog.info? 48).map (·.size) = some 2 := by kernel_rfl
theorem lies_bld : liesAt Try.prog Try.prog.depth 50 (2 / Try.prog.cellsOf 50) 0 48 1 = true := by kernel_rfl
theorem str_cells_app (l m : List Int) : Lib.strCells (strOfNums l) ++ Lib.strCells (strOfNums m) = Lib.strCells (strOfNums (l ++ m)) := by
  rw [← str_append]
  unfold Lib.strCells
  rw [← List.map_append]
  congr 1
/-- A block that a writer does not write: not its own, not its buffer. -/
def Apt (w : World) (b k : Nat) : Prop := k < w.heap.size ∧ k ≠ b ∧ ∀ v, w.cell? ⟨b, 1, none⟩ = some v → v.ownBlock ≠ some k
/-- What a writer has touched. -/
def BwF (B b : Nat) (w w' : World) : Prop := Below B w w' ∧ ∀ k, Apt w b k → Apt w' b k ∧ w'.heap[k]? = w.heap[k]?
theorem BwF.refl (B b : Nat) (w : World) : BwF B b w w := ⟨Below.refl _ _, fun _ h => ⟨h, rfl⟩⟩
theorem BwF.trans {B b : Nat} {x y z : World} (h : BwF B b x y) (h' : BwF B b y z) : BwF B b x z :=
  ⟨h.1.trans h'.1, fun k hk => ⟨(h'.2 k (h.2 k hk).1).1, (h'.2 k (h.2 k hk).1).2.trans (h.2 k hk).2⟩⟩
theorem BwF.of {B b : Nat} {w w' : World} (hB : B ≤ w.heap.size) (hb : b < w.heap.size) (h : Below w.heap.size w w') : BwF B b w w' :=
  ⟨h.mono hB, fun k hk => ⟨⟨Nat.lt_of_lt_of_le hk.1 h.size, hk.2.1, fun v hv => hk.2.2 v (by rw [← h.cell (p := ⟨b, 1, none⟩) hb]; exact hv)⟩, h.block k hk.1⟩⟩
section
open Go.Lib
/-- 'append(bytes, text...)': where the bytes lie then. -/
theorem ap_at {P : Program} (w : World) (base : Nat) (t u ty e : TypeId) (i : TypeInfo) (ht : P.underlying t = some (.slice e)) (hu : P.underlying u = some .string) (hi : P.info? e = some i) (hz : i.zero = some (.int .u8 0))
    (hsize : i.size = 1) (hby : i.bytes = 1) (v : Value) (n : Nat) (xs : List Value) (hown : w.ownsRowF base e 1 v n xs) (s : ByteArray) (h63 : n + s.size ≤ maxLen) (hbytes : n + s.size ≤ 140737488355328) (hbase : base ≤ w.heap.size) :
    ∃ v' w', (Builtin.append_ #[t, u] ty #[v, .string s]).run P w = .ok v' w' ∧ w'.ownsRowF base e 1 v' (n + s.size) (xs ++ strCells s) ∧ w.grownBy w' v.ownBlock ∧ ∀ k, v'.ownBlock = some k → v.ownBlock = some k ∨ w.heap.size ≤ k := by
  obtain ⟨v', w', h1, h2, h3, _⟩ := run_append_own_stringF (P := P) w base t u ty e i ht hu hi hz hsize hby v n xs hown s h63 hbytes hbase
  refine ⟨v', w', h1, h2, h3, ?_⟩
  rcases hown.2 with ⟨rfl, rfl⟩ | ⟨g, cap, cur, fz, rfl, hbg, hg, hfz, hnc, hcm, hcs, htake⟩
  · obtain ⟨v2, w2, k1, k2, _, _⟩ := run_append_own_stringF (P := P) w w.heap.size t u ty e i ht hu hi hz hsize hby (.slice none 0 0) 0 xs ⟨hown.1, .inl ⟨rfl, rfl⟩⟩ s h63 hbytes (Nat.le_refl _)
    rw [h1] at k1
    injection k1 with e1 e2
    subst e1
    intro k hk
    rcases k2.2 with ⟨q, _⟩ | ⟨g, cap, cur, fz, q, hg, _⟩
    · rw [q] at hk; cases hk
    · rw [q] at hk
      obtain rfl : g = k := by injection hk
      exact .inr hg
  · have hxl : xs.length = n := by simpa using hown.1
    by_cases hroom : n + s.size ≤ cap
    · have hcs' : cur.size = cap := by simpa using hcs
      have hr := run_append_room_stringF (P := P) w t u ty e i ht hu hi hsize g n cap cur fz hg (by simpa using hfz) s hroom (by omega)
      rw [h1] at hr
      injection hr with e1 e2
      subst e1
      exact fun k hk => .inl hk
    · have holds : ∀ j u, xs[j]? = some u → w.cell? ((⟨g, 0, none⟩ : Addr).add j) = some u := hown.cells (g := g) rfl
      have hr := run_append_grow_string (P := P) w t u ty e i (.int .u8 0) ht hu hi hz ⟨g, 0, none⟩ n cap xs (by rw [hsize]; simpa using hxl) holds s (by omega) (by simp only [maxLen] at h63; omega) (by rw [hby]; exact growslice_fits (by omega) (by omega))
      rw [h1] at hr
      injection hr with e1 e2
      subst e1
      intro k hk
      obtain rfl : w.heap.size = k := by injection hk
      exact .inr (Nat.le_refl _)
theorem wpList_ap_at {P : Program} (w : World) {ops : Array Oper} {rest : List Oper} {o : Oper} {a : Act} {Q : Exit → Act → World → Prop} (hgd : o.guard = none) (sl x : Operand) (t u : TypeId)
    (ho : o.op = .call { callee := .builtin .append, args := #[sl, x], argTypes := #[t, u] })
    (base : Nat) (e : TypeId) (i : TypeInfo) (ht : P.underlying t = some (.slice e)) (hu : P.underlying u = some .string) (hi : P.info? e = some i) (hz : i.zero = some (.int .u8 0)) (hsize : i.size = 1) (hby : i.bytes = 1)
    (v : Value) (n : Nat) (xs : List Value) (hs : a.eval sl = v) (hown : w.ownsRowF base e 1 v n xs) (s : ByteArray) (hx : a.eval x = .string s) (h63 : n + s.size ≤ maxLen) (hbytes : n + s.size ≤ 140737488355328) (hbase : base ≤ w.heap.size)
    (h : ∀ v' w', w'.ownsRowF base e 1 v' (n + s.size) (xs ++ strCells s) → w.grownBy w' v.ownBlock → (∀ k, v'.ownBlock = some k → v.ownBlock = some k ∨ w.heap.size ≤ k) → wpList P ops Q rest (a.put o.dst v') w') : wpList P ops Q (o :: rest) a w := by
  refine wpList_plain hgd fun K hK => ?_
  obtain ⟨v', w', hr, h2, h3, h4⟩ := ap_at (P := P) w base t u o.type e i ht hu hi hz hsize hby v n xs hown s h63 hbytes hbase
  unfold Oper.wp execOp
  simp only [ho, resolve, invoke, builtin, Sem.run_bind, Sem.run_pure, Result.andThen_ok, List.map_toArray, List.map_cons, List.map_nil, hs, hx, hr]
  exact hK _ _ (h v' w' h2 h3 h4)
end
set_option maxRecDepth 100000 in
set_option maxHeartbeats 1000000 in
theorem bw_check (B b : Nat) (l : List Int) (w : World) (h : BwS w B b l) :
    Calls Try.prog 38 #[.pointer (some ⟨b, 0, none⟩)] w fun e w' => e = .returned (.tuple #[]) ∧ BwU w' B b l ∧ BwF B b w w' ∧ w'.cell? ⟨b, 1, none⟩ = w.cell? ⟨b, 1, none⟩ := by
  obtain ⟨j, hj, hjs⟩ := Option.map_eq_some_iff.1 info_bld
  have u46 := run_underlying (P := Try.prog) Try.underlying46
  have u48 := run_underlying (P := Try.prog) Try.underlying48
  rcases h with h | h
  · have h0 := h.cell0
    have hsh := h.shape
    have hfz := h.frozen0
    have hc1 : (w.setCell ⟨b, 0, none⟩ (.pointer (some ⟨b, 0, none⟩))).cell? ⟨b, 1, none⟩ = w.cell? ⟨b, 1, none⟩ := by
      obtain ⟨_, v, hbk, _⟩ := h
      have hb : Blk w b 50 #[.pointer none, v] := hbk
      rw [(hb.set_ 0 _).cell, hb.cell]; rfl
    have HU : Hid (BwU (w.setCell ⟨b, 0, none⟩ (.pointer (some ⟨b, 0, none⟩))) B b l ∧ BwF B b w (w.setCell ⟨b, 0, none⟩ (.pointer (some ⟨b, 0, none⟩))) ∧ (w.setCell ⟨b, 0, none⟩ (.pointer (some ⟨b, 0, none⟩))).cell? ⟨b, 1, none⟩ = w.cell? ⟨b, 1, none⟩) :=
      ⟨h.used _, ⟨(Below.refl B w).setCell (p := ⟨b, 0, none⟩) h.1 _, fun k hk => ⟨⟨by simpa [World.setCell] using hk.1, hk.2.1, fun v hv => hk.2.2 v (by rw [← hc1]; exact hv)⟩, Below.heap_setCell w ⟨b, 0, none⟩ _ k hk.2.1⟩⟩, hc1⟩
    clear hc1
    clear h
    go_enter Try.func38, Try.ntmps38
    go_wp2
    rw [Lib.run_to_unsafe w ⟨b, 0, none⟩ Try.underlying46 Try.underlying110 hj (by rw [hjs]; decide) hsh (Nat.zero_lt_succ 1)]
    simp only [Result.andThen]
    rw [Oper.upon_value]
    go_wp2
    rw [run_callFunc_extern Try.func68 (by kernel_rfl) (by kernel_rfl) (by kernel_rfl) (e := Extern.AbiNoEscape.same) (by kernel_rfl)]
    rw [Lib.run_noEscape]
    simp only [Result.andThen]
    rw [Oper.upon_value]
    go_wp2
    rw [Lib.run_from_unsafe w ⟨b, 0, none⟩ Try.underlying110 Try.underlying46 hj hsh lies_bld]
    simp only [Result.andThen]
    rw [Oper.upon_value]
    go_wp2
    go_end0
    exact ⟨rfl, HU.out⟩
  · have h0 := h.cell0
    have HU := Lib.hid h
    clear h
    go_enter Try.func38, Try.ntmps38
    go_wp2
    rw [Lib.run_neq_ptr_same w _ Try.underlying46 hj]
    go_wp2
    go_end0
    exact ⟨rfl, HU.out, BwF.refl B b _, rfl⟩
theorem info_u8b : (Try.prog.info? 5).map (fun i => (i.zero, i.size, i.bytes)) = some (some (.int .u8 0), 1, 1) := by kernel_rfl
theorem str_cells_len (l : List Int) : (Lib.strCells (strOfNums l)).length = l.length := by
  rw [Lib.strCells_length, strOfNums_size]
set_option maxRecDepth 100000 in
set_option maxHeartbeats 2000000 in
/-- (*strings.Builder).WriteString. -/
theorem bw_write (B b : Nat) (l m : List Int) (w : World) (h : BwS w B b l) (hl : l.length + m.length ≤ 1099511627776) (hB : B ≤ w.heap.size) :
    Calls Try.prog 14 #[.pointer (some ⟨b, 0, none⟩), .string (strOfNums m)] w fun e w' => e = .returned (.tuple #[.int .i64 (m.length : Nat), .nilIface]) ∧ BwU w' B b (l ++ m) ∧ BwF B b w w' := by
  obtain ⟨i0, hi, hz0, hz1, hz2⟩ := info_parts info_u8b
  have HC := Lib.hid (bw_check B b l w h)
  have hsl := str_cells_len l
  have hsm := strOfNums_size m
  obtain ⟨sm, hsm2⟩ : ∃ sm, strOfNums m = sm := ⟨_, rfl⟩
  have HAP : Hid (Lib.strCells (strOfNums l) ++ Lib.strCells sm = Lib.strCells (strOfNums (l ++ m))) := by show _ = _; rw [← hsm2]; exact str_cells_app l m
  rw [hsm2] at hsm ⊢
  clear h hsm2
  go_enter Try.func14, Try.ntmps14
  go_wp2_with (go_at_call 38; refine HC.out.mono ?_)
  rintro e w1 ⟨rfl, h1, hf1, hc1⟩
  clear hc1
  have hb1 := hf1.1
  obtain ⟨hBb, v, hbk, hown, hne⟩ := h1
  have c0 : w1.cell? ⟨b, 0, none⟩ = some (.pointer (some ⟨b, 0, none⟩)) := by rw [Lib.cell_of_heap hbk]; rfl
  have c1 : w1.cell? ⟨b, 1, none⟩ = some v := by rw [Lib.cell_of_heap hbk]; rfl
  rw [hsl] at hown
  go_wp2_with (at_builtin; refine wpList_ap_at _ rfl _ _ 34 9 rfl B 5 i0 Try.underlying34 Try.underlying9 hi hz0 hz1 hz2 _ _ _ rfl hown sm rfl ?c3 ?c4 ?c5 ?_)
  case c3 => unfold maxLen; omega
  case c4 => omega
  case c5 => have := hb1.size; omega
  intro v' w2 hown' hgrow hat
  have hlt : b < w1.heap.size := by
    rcases Nat.lt_or_ge b w1.heap.size with h' | h'
    · exact h'
    · simp [Array.getElem?_eq_none h'] at hbk
  have hb2 : w2.heap[b]? = some (.cells #[.pointer (some ⟨b, 0, none⟩), v] 50 (0, 0)) := by
    rw [hgrow.block b hlt (fun e => hne e.symm)]
    exact hbk
  have d0 : w2.cell? ⟨b, 0, none⟩ = some (.pointer (some ⟨b, 0, none⟩)) := by rw [Lib.cell_of_heap hb2]; rfl
  have d1 : w2.cell? ⟨b, 1, none⟩ = some v := by rw [Lib.cell_of_heap hb2]; rfl
  have f1 : w2.frozen? ⟨b, 1, none⟩ = false := Lib.frozen_of_heap hb2 1
  obtain ⟨ao, n', cap, rfl⟩ : ∃ ao n' cap, v' = .slice ao n' cap := by
    rcases hown'.2 with ⟨hv, _⟩ | ⟨g, cap, cur, fz, hv, _⟩
    · exact ⟨_, _, _, hv⟩
    · exact ⟨_, _, _, hv⟩
  have HF : Hid (BwU (w2.setCell ⟨b, 1, none⟩ (.slice ao n' cap)) B b (l ++ m) ∧ BwF B b w (w2.setCell ⟨b, 1, none⟩ (.slice ao n' cap))) := by
    refine ⟨?_, hf1.trans ⟨((Below.refl B w1).grown hgrow (by have := hb1.size; omega) (fun k hk => (hown.lt k hk).1)).setCell (p := ⟨b, 1, none⟩) hBb _, fun k hk => ?_⟩⟩
    rotate_left
    · have hko : v.ownBlock ≠ some k := hk.2.2 v c1
      have hbk2 : Blk w2 b 50 #[.pointer (some ⟨b, 0, none⟩), v] := hb2
      refine ⟨⟨by have := hgrow.size; have := hk.1; simp only [World.setCell, Array.size_modify] at *; omega, hk.2.1, fun v2 hv2 => ?_⟩, (Below.heap_setCell w2 ⟨b, 1, none⟩ _ k hk.2.1).trans (hgrow.block k hk.1 (fun e => hko e.symm))⟩
      have h2 := (hbk2.set_ 1 (.slice ao n' cap)).cell 1
      rw [h2] at hv2
      obtain rfl : Value.slice ao n' cap = v2 := by simpa using hv2
      intro e
      rcases hat k e with q | q
      · exact hko q
      · have := hk.1; omega
    unfold BwU
    rw [← HAP.out]
    refine Lib.BuilderAtF.put (T := 50) (e := 5) hBb hb2 ?_ (by decide)
    rw [List.length_append, hsl, Lib.strCells_length, hsm]
    exact hown'
  clear hown' hgrow hown hbk hne hb2 hat hf1
  go_wp2
  refine bodyPost_ret (v := .tuple #[.int .i64 (m.length : Nat), .nilIface]) (by simp [results, Try.results14, go_sem]) rfl ?_
  exact ⟨rfl, HF.out.1, HF.out.2⟩
theorem heap_freeze (w : World) (p : Addr) (n : Nat) {k : Nat} (h : k ≠ p.block) : (w.freeze p n).heap[k]? = w.heap[k]? := by
  unfold World.freeze
  split
  · rfl
  · simp only [Array.getElem?_modify]
    rw [if_neg (fun e => h e.symm)]
theorem size_freeze (w : World) (p : Addr) (n : Nat) : (w.freeze p n).heap.size = w.heap.size := by
  unfold World.freeze
  split <;> simp
set_option maxRecDepth 100000 in
set_option maxHeartbeats 2000000 in
/-- (*strings.Builder).String, of some bytes. -/
theorem bw_string_p (p : Value) (B b : Nat) (l : List Int) (w : World) (h : Lib.BuilderAtF 50 5 B b p (Lib.strCells (strOfNums l)) w) (h0 : 0 < l.length) (hlm : l.length ≤ 1099511627776) :
    Calls Try.prog 19 #[.pointer (some ⟨b, 0, none⟩)] w fun e w' => e = .returned (.string (strOfNums l)) ∧ Lib.BuilderAtF 50 5 B b p (Lib.strCells (strOfNums l)) w' ∧ BwF B b w w' := by
  have hA := h
  have hs := strOfNums_size l
  obtain ⟨s, hs2⟩ : ∃ s, strOfNums l = s := ⟨_, rfl⟩
  rw [hs2] at hs hA ⊢
  have hl0 : s.data.toList.length = l.length := by rw [← hs]; rfl
  have hA2 := hA
  obtain ⟨hB, v, hbk, hown, hne⟩ := hA
  rw [Lib.strCells_length, hs] at hown
  obtain ⟨g, cap, cur, fz, rfl, hbg, hg, hfz, hnc, hcm, hcs, htake⟩ : ∃ g cap cur fz, v = .slice (some ⟨g, 0, none⟩) l.length cap ∧ B ≤ g ∧ w.heap[g]? = some (.cells cur 5 fz) ∧ fz.2 ≤ l.length * 1 ∧ l.length ≤ cap ∧ cap ≤ maxLen ∧ cur.size = cap * 1 ∧ cur.toList.take (l.length * 1) = Lib.strCells s := by
    rcases hown.2 with ⟨_, hz⟩ | ⟨g, cap, cur, fz, hv, r⟩
    · exact absurd hz (by omega)
    · exact ⟨g, cap, cur, fz, hv, r⟩
  have c1 : w.drew.cell? ⟨b, 1, none⟩ = some (.slice (some ⟨g, 0, none⟩) l.length cap) := by
    have : w.drew.heap[b]? = some (.cells #[p, .slice (some ⟨g, 0, none⟩) l.length cap] 50 (0, 0)) := hbk
    rw [Lib.cell_of_heap this]; rfl
  have hSD : (Builtin.unsafeSliceData_ #[34] 87 #[.slice (some ⟨g, 0, none⟩) l.length cap]).run Try.prog w.drew = .ok (.pointer (some ⟨g, 0, none⟩)) w.drew :=
    Lib.run_unsafeSliceData_row _ _ _ _ _ _ (by omega)
  have hUS : (Builtin.unsafeString_ #[87, 3] 9 #[.pointer (some ⟨g, 0, none⟩), .int .i64 l.length]).run Try.prog w.drew = .ok (.string s) (w.drew.freeze ⟨g, 0, none⟩ l.length) := by
    have := Lib.run_unsafeString_row (P := Try.prog) w.drew 87 3 9 5 Try.underlying87 (by kernel_rfl) g cur.size (by have hg' : w.drew.heap[g]? = some (.cells cur 5 fz) := hg; simp [World.shape?, hg']) s.data.toList (by intro e; rw [e] at hl0; simp at hl0; omega) (by omega) (by unfold maxLen at hcm; omega) (by
      intro j x hx
      have := hown.cells (g := g) rfl j (.int .u8 x.toNat) (by simp [Lib.strCells, hx])
      exact this)
    rw [hl0] at this
    exact this
  have hF := hA2.drew.froze (g := g) (cap := cap) (by rw [Lib.strCells_length, hs]; exact c1)
  rw [Lib.strCells_length, hs] at hF
  have hgb : b ≠ g := fun e => hne (by rw [e]; rfl)
  have hcb : (w.drew.freeze ⟨g, 0, none⟩ l.length).cell? ⟨b, 1, none⟩ = some (.slice (some ⟨g, 0, none⟩) l.length cap) := by
    rw [← c1]
    unfold World.cell?
    simp only [heap_freeze w.drew ⟨g, 0, none⟩ l.length hgb]
  have hcw : w.cell? ⟨b, 1, none⟩ = some (.slice (some ⟨g, 0, none⟩) l.length cap) := c1
  have HK : Hid (Lib.BuilderAtF 50 5 B b p (Lib.strCells s) (w.drew.freeze ⟨g, 0, none⟩ l.length) ∧ BwF B b w (w.drew.freeze ⟨g, 0, none⟩ l.length)) := ⟨hF, Lib.below_freeze (Below.drew (Below.refl B w)) (p := ⟨g, 0, none⟩) hbg _, fun k hk => by
    have hkg : k ≠ g := fun e => hk.2.2 _ hcw (by rw [e]; rfl)
    exact ⟨⟨by rw [size_freeze]; exact hk.1, hk.2.1, fun v hv => hk.2.2 v (by rw [hcb] at hv; rw [hcw]; exact hv)⟩, heap_freeze w.drew ⟨g, 0, none⟩ l.length hkg⟩⟩
  clear hcb hcw hgb
  have mixed : Try.prog.follows Departure.mixedOrders = true := by kernel_rfl
  have u34 := run_underlying (P := Try.prog) Try.underlying34
  have u87 := run_underlying (P := Try.prog) Try.underlying87
  clear hF hA2 hown hg htake hbk hne h hs2
  go_enter Try.func19, Try.ntmps19
  go_wp2
  go_region_o
  all_goals (go_wp2; go_ret; exact ⟨rfl, HK.out.1, HK.out.2⟩)
theorem bw_string (B b : Nat) (l : List Int) (w : World) (h : BwS w B b l) (h0 : 0 < l.length) (hlm : l.length ≤ 1099511627776) :
    Calls Try.prog 19 #[.pointer (some ⟨b, 0, none⟩)] w fun e w' => e = .returned (.string (strOfNums l)) ∧ BwS w' B b l ∧ BwF B b w w' := by
  rcases h with h | h
  · exact (bw_string_p _ B b l w h h0 hlm).mono fun e w' hh => ⟨hh.1, .inl hh.2.1, hh.2.2⟩
  · exact (bw_string_p _ B b l w h h0 hlm).mono fun e w' hh => ⟨hh.1, .inr hh.2.1, hh.2.2⟩
/-- A number, as uint64. -/
def nz (z : Int) : Nat := (z % 18446744073709551616).toNat
theorem nz_cast (z : Int) : IntKind.u64.wrap z = ((nz z : Nat) : Int) := by rw [wrap_u64]; unfold nz; omega
theorem nz_lt (z : Int) : nz z < 18446744073709551616 := by unfold nz; omega
theorem nz_nat {n : Nat} (h : n < 18446744073709551616) : nz (n : Int) = n := by unfold nz; omega
/-- Numbers' bytes. -/
def numsZ (zs : List Int) : List Int := zs.flatMap fun z => numL (nz z)
theorem numsZ_app (a b : List Int) : numsZ (a ++ b) = numsZ a ++ numsZ b := by simp [numsZ]
theorem numsZ_one (z : Int) : numsZ [z] = numL (nz z) := by simp [numsZ]
theorem numsZ_len : ∀ zs : List Int, (numsZ zs).length ≤ 10 * zs.length
  | [] => by simp [numsZ]
  | z :: zs => by
    have h := numsZ_len zs
    have h2 := (len_num (nz z)).1
    have e : numsZ (z :: zs) = numL (nz z) ++ numsZ zs := by simp [numsZ]
    rw [e, List.length_append, List.length_cons]
    omega
theorem numsZ_step {zs : List Int} {k : Nat} (h : k < zs.length) (l : List Int) : (l ++ numsZ (zs.take k)) ++ numL (nz (ig zs k)) = l ++ numsZ (zs.take (k + 1)) := by
  rw [take_step h, numsZ_app, numsZ_one, List.append_assoc]
theorem yieldsIf_convU {ops : Array Oper} {S : World → Prop} {o : Oper} {a : Act} {z : Int} {n : Nat} (hn : IntKind.u64.wrap z = (n : Nat)) (hw : Region.wanted o (yielded ops a.tmps) = true) (x : Operand) (ho : o.op = .convert 3 36 x) (hx : a.eval x = .int .i64 z) : YieldsIf Try.prog ops S o (.int .u64 (n : Nat)) a := by
  refine .inl ⟨hw, fun w _ => ?_⟩
  have u1 := run_underlying (P := Try.prog) Try.underlying3
  have u2 := run_underlying (P := Try.prog) Try.underlying36
  unfold execOp
  simp only [ho, hx]
  simp [go_sem, convert, u1, u2, hn]
theorem bel_boxI (w : World) (o : Obj) : Below w.heap.size w (w.alloc o) := (Below.refl _ w).alloc (Nat.le_refl _) _
theorem BwS.below {w w' : World} {B b : Nat} {l : List Int} (h : BwS w B b l) (hb : Below w.heap.size w w') : BwS w' B b l := by
  have key : ∀ p, Lib.BuilderAtF 50 5 B b p (Lib.strCells (strOfNums l)) w → Lib.BuilderAtF 50 5 B b p (Lib.strCells (strOfNums l)) w' := by
    rintro p ⟨h1, v, h2, h3, h4⟩
    have hlt : b < w.heap.size := by
      rcases Nat.lt_or_ge b w.heap.size with q | q
      · exact q
      · rw [Array.getElem?_eq_none q] at h2; cases h2
    refine ⟨h1, v, (hb.block b hlt).trans h2, ?_, h4⟩
    refine ⟨h3.1, ?_⟩
    rcases h3.2 with q | ⟨g, cap, cur, fz, e, hg, hh, r⟩
    · exact .inl q
    · have hgl : g < w.heap.size := by
        rcases Nat.lt_or_ge g w.heap.size with q | q
        · exact q
        · rw [Array.getElem?_eq_none q] at hh; cases hh
      exact .inr ⟨g, cap, cur, fz, e, hg, (hb.block g hgl).trans hh, r⟩
  rcases h with h | h
  · exact .inl (key _ h)
  · exact .inr (key _ h)
theorem BwS.lt {w : World} {B b : Nat} {l : List Int} (h : BwS w B b l) : b < w.heap.size := by
  have key : ∀ p, Lib.BuilderAtF 50 5 B b p (Lib.strCells (strOfNums l)) w → b < w.heap.size := by
    rintro p ⟨_, v, h2, _⟩
    rcases Nat.lt_or_ge b w.heap.size with q | q
    · exact q
    · rw [Array.getElem?_eq_none q] at h2; cases h2
  rcases h with h | h
  · exact key _ h
  · exact key _ h
theorem BwS.base {w : World} {B b : Nat} {l : List Int} (h : BwS w B b l) : B ≤ b := by rcases h with h | h <;> exact h.1
/-- What a call has left that wrote m. -/
def WrR (B b : Nat) (l m : List Int) (w : World) (e : Ending) (w' : World) : Prop := e = .returned (.tuple #[]) ∧ BwS w' B b (l ++ m) ∧ BwF B b w w'
set_option maxRecDepth 100000 in
set_option maxHeartbeats 4000000 in
theorem wr_num (B b : Nat) (l : List Int) (A : Option Addr) (n c : Nat) (zs : List Int) (w : World) (hw : BwS w B b l) (hr : ∀ W, BwF B b w W → Rd W W.heap.size A n (zs.map (.int .i64))) (hl : l.length + 10 * n ≤ 549755813888) :
    Calls Try.prog 15 #[.pointer (some ⟨b, 0, none⟩), .slice A n c] w (WrR B b l (numsZ zs) w) := by
  have hzl := (hr w (BwF.refl B b w)).lenI
  have HR := Lib.hid hr
  have HS0 := Lib.hid hw
  clear hr hw
  go_enter Try.func15, Try.ntmps15
  go_upto_region 1 with fail
  go_loopw [5, 8] (fun _ s8 wr => ∃ k : Nat, k ≤ n ∧ s8 = .int .i64 k ∧ Hid (BwS wr B b (l ++ numsZ (zs.take k))) ∧ Hid (BwF B b w wr)) (fun _ s8 _ => n - (intOf s8).toNat)
  case atStart => exact ⟨0, Nat.zero_le _, rfl, by show BwS _ _ _ _; simpa [numsZ] using HS0.out, BwF.refl B b _⟩
  case round =>
    obtain ⟨k, hk, rfl, hs, hf⟩ := hrel
    by_cases hlt : k < n
    · obtain ⟨a, o, rfl, _, hc⟩ := (HR.out wr hf.out).atI hlt
      have HST := Lib.hid (numsZ_step (zs := zs) (k := k) (by omega) l)
      have hln : (l ++ numsZ (zs.take k)).length ≤ l.length + 10 * n := by
        have := numsZ_len (zs.take k)
        rw [List.length_take] at this
        rw [List.length_append]; omega
      have HLN := Lib.hid hln
      clear hln
      obtain ⟨z, hz⟩ : ∃ z, ig zs k = z := ⟨_, rfl⟩
      rw [hz] at hc HST
      have hzc := Lib.hid (nz_cast z)
      have hzt := Lib.hid (nz_lt z)
      obtain ⟨m, hm⟩ : ∃ m, nz z = m := ⟨_, rfl⟩
      rw [hm] at hzc hzt HST
      clear hz hm
      have HLM := Lib.hid (len_num m).1
      go_upto_region 3 with fail
      refine wp_region_held_drew (S := fun _ => True) (by kernel_rfl) trivial (fun hH => ?_)
      have HS1 : Hid (BwS wr.drew B b (l ++ numsZ (zs.take k))) := BwS.below hs.out (below_drewN (Below.refl _ wr) 1)
      have HF1 : Hid (BwF B b w wr.drew) := hf.out.trans (BwF.of (by have := hs.out.lt; have := hs.out.base; omega) hs.out.lt (below_drewN (Below.refl _ wr) 1))
      obtain ⟨W, hW⟩ : ∃ q, wr.drew = q := ⟨_, rfl⟩
      rw [hW] at HS1 HF1 ⊢
      clear hW
      refine wpAnyH_take (i := 0) (v := .pointer (some ⟨b, 0, none⟩)) rfl (by kernel_rfl) (by kernel_rfl) (by kernel_rfl) (fun _ _ _ h => h) (.inl ⟨by rfl, fun _ _ => by kernel_rfl⟩) trivial ?_
      (try simp only [List.getElem_toArray, List.getElem_cons_zero, Act.put, List.setIfInBounds_toArray, List.set_cons_zero, List.set_cons_succ])
      refine wpAnyH_take (i := 1) (v := .pointer (some ⟨b, 0, none⟩)) rfl (by kernel_rfl) (by kernel_rfl) (by kernel_rfl) (fun _ _ _ h => h) (.inl ⟨by rfl, fun _ _ => by kernel_rfl⟩) trivial ?_
      (try simp only [List.getElem_toArray, List.getElem_cons_zero, List.getElem_cons_succ, Act.put, List.setIfInBounds_toArray, List.set_cons_zero, List.set_cons_succ])
      refine wpAnyH_take (i := 2) (v := .pointer (some ⟨b, 0, none⟩)) rfl (by kernel_rfl) (by kernel_rfl) (by kernel_rfl) (fun _ _ _ h => h) (.inl ⟨by rfl, fun _ _ => by kernel_rfl⟩) trivial ?_
      (try simp only [List.getElem_toArray, List.getElem_cons_zero, List.getElem_cons_succ, Act.put, List.setIfInBounds_toArray, List.set_cons_zero, List.set_cons_succ])
      refine wpAnyH_take (i := 3) (v := .int .i64 z) rfl (by kernel_rfl) (by kernel_rfl) (by kernel_rfl) (fun _ _ _ h => h) (.inl ⟨by rfl, fun _ _ => by kernel_rfl⟩) trivial ?_
      (try simp only [List.getElem_toArray, List.getElem_cons_zero, List.getElem_cons_succ, Act.put, List.setIfInBounds_toArray, List.set_cons_zero, List.set_cons_succ])
      refine wpAnyH_take (i := 4) (v := .int .u64 ((m : Nat) : Int)) rfl (by kernel_rfl) (by kernel_rfl) (by kernel_rfl) (fun _ _ _ h => h) (yieldsIf_convU hzc.out (by rfl) _ rfl rfl) trivial ?_
      (try simp only [List.getElem_toArray, List.getElem_cons_zero, List.getElem_cons_succ, Act.put, List.setIfInBounds_toArray, List.set_cons_zero, List.set_cons_succ])
      refine wpAnyH_call 5 39 #[.int .u64 (m : Nat)] _ (by kernel_rfl) (by rfl) (by kernel_rfl) (by kernel_rfl) (lit_num m hzt.out _) ?_
      rintro e Z1 ⟨rfl, hb1⟩
      have HS2 := Lib.hid (BwS.below HS1.out hb1)
      have HF2 := Lib.hid (HF1.out.trans (BwF.of (by have := HS1.out.lt; have := HS1.out.base; omega) HS1.out.lt hb1))
      clear hb1
      refine ⟨_, rfl, trivial, ?_⟩
      (try simp only [List.getElem_toArray, List.getElem_cons_zero, List.getElem_cons_succ, Act.put, List.setIfInBounds_toArray, List.set_cons_zero, List.set_cons_succ])
      refine wpAnyH_call 6 14 #[.pointer (some ⟨b, 0, none⟩), .string (strOfNums (numL m))] _ (by kernel_rfl) (by rfl) (by kernel_rfl) (by kernel_rfl) (bw_write B b _ _ _ HS2.out (by have := HLN.out; have := HLM.out; omega) (by have := HS2.out.lt; have := HS2.out.base; omega)) ?_
      rintro e Z2 ⟨rfl, hu, hf2⟩
      have HS3 := Lib.hid hu.s
      rw [HST.out] at HS3
      have HF3 := Lib.hid (HF2.out.trans hf2)
      clear hu hf2
      refine ⟨_, rfl, trivial, ?_⟩
      (try simp only [List.getElem_toArray, List.getElem_cons_zero, List.getElem_cons_succ, Act.put, List.setIfInBounds_toArray, List.set_cons_zero, List.set_cons_succ])
      refine wpAnyH_done (by kernel_rfl) ?_ _
      clear HS1 HS2 HF1 HF2 HST
      go_wp2_with fail
      go_roundw
      case rel => exact ⟨k + 1, by omega, by go_num, HS3, HF3⟩
      case measure => simp [intOf]; omega
    · obtain rfl : k = n := by omega
      have HE : Hid (zs.take k = zs) := List.take_of_length_le (by omega)
      go_wp2
      go_end0
      exact ⟨rfl, by rw [← HE.out]; exact hs.out, hf.out⟩
/-- A list's numbers. -/
def lsZ (l : IS) : List Int := (l.n : Int) :: l.xs
/-- A node's numbers. -/
def ndZ (d : ND) : List Int := [1, d.id, d.tags, (d.vec.n : Int)] ++ d.vec.xs.map zigF ++ [d.level] ++ d.ls.flatMap lsZ ++ [d.next, d.prev]
theorem BwS.own {w : World} {B b : Nat} {l : List Int} (h : BwS w B b l) {v : Value} (hv : w.cell? ⟨b, 1, none⟩ = some v) : ∀ k, v.ownBlock = some k → k < w.heap.size := by
  have key : ∀ p, Lib.BuilderAtF 50 5 B b p (Lib.strCells (strOfNums l)) w → ∀ k, v.ownBlock = some k → k < w.heap.size := by
    rintro p ⟨_, v', h2, h3, _⟩ k hk
    have e : w.cell? ⟨b, 1, none⟩ = some v' := by rw [Lib.cell_of_heap h2]; rfl
    rw [hv] at e
    injection e with e
    subst e
    exact (h3.lt k hk).2
  rcases h with h | h
  · exact key _ h
  · exact key _ h
theorem BwS.fresh {w w' : World} {B b : Nat} {l : List Int} (h : BwS w B b l) (hb : Below w.heap.size w w') {g : Nat} (hg : w.heap.size ≤ g) (hg' : g < w'.heap.size) : Apt w' b g :=
  ⟨hg', fun e => by have := h.lt; omega, fun v hv e => by
    rw [hb.cell (p := ⟨b, 1, none⟩) h.lt] at hv
    have := h.own hv g e
    omega⟩
/-- A writer at work: what it has, what it has touched, and a block beside it. -/
def NI (w : World) (B b : Nat) (l : List Int) (g0 T : Nat) (cs : Array Value) (W : World) (zs : List Int) : Prop := BwS W B b (l ++ numsZ zs) ∧ BwF B b w W ∧ Blk W g0 T cs ∧ Apt W b g0
section
variable {w W W' : World} {B b g0 T : Nat} {l zs : List Int} {cs : Array Value}
theorem NI.below (h : NI w B b l g0 T cs W zs) (hb : Below W.heap.size W W') : NI w B b l g0 T cs W' zs := by
  have hf : BwF B b W W' := BwF.of (by have := h.1.lt; have := h.1.base; omega) h.1.lt hb
  exact ⟨h.1.below hb, h.2.1.trans hf, h.2.2.1.below hb h.2.2.1.lt, (hf.2 g0 h.2.2.2).1⟩
theorem NI.wrote (h : NI w B b l g0 T cs W zs) {m ys : List Int} (hS : BwS W' B b ((l ++ numsZ zs) ++ m)) (hF : BwF B b W W') (hm : m = numsZ ys) : NI w B b l g0 T cs W' (zs ++ ys) := by
  refine ⟨?_, h.2.1.trans hF, (hF.2 g0 h.2.2.2).2.trans h.2.2.1, (hF.2 g0 h.2.2.2).1⟩
  rw [numsZ_app, ← List.append_assoc, ← hm]
  exact hS
theorem ni_is (hl : l.length ≤ 274877906944) (h : NI w B b l g0 T cs W zs) {A : Option Addr} {n c : Nat} {ys : List Int} (hr : ∀ W', BwF B b W W' → Rd W' W'.heap.size A n (ys.map (.int .i64))) (hz : zs.length + ys.length ≤ 20000000000) :
    Calls Try.prog 15 #[.pointer (some ⟨b, 0, none⟩), .slice A n c] W fun e w' => e = .returned (.tuple #[]) ∧ NI w B b l g0 T cs w' (zs ++ ys) := by
  have hn := (hr W (BwF.refl B b W)).lenI
  have hln := numsZ_len zs
  refine (wr_num B b _ A n c ys W h.1 hr (by rw [List.length_append]; omega)).mono ?_
  rintro e w' ⟨rfl, h1, h2⟩
  exact ⟨rfl, h.wrote h1 h2 rfl⟩
theorem ni_num (hl : l.length ≤ 274877906944) (h : NI w B b l g0 T cs W zs) (ys : List Int) (vs : Array Value) (n : Nat) (ha : vs.toList = ys.map (.int .i64)) (hn : ys.length = n) (hz : zs.length + ys.length ≤ 20000000000) :
    Calls Try.prog 15 #[.pointer (some ⟨b, 0, none⟩), .slice (some ⟨W.heap.size, 0, none⟩) n n] (W.alloc (.cells vs 3)) fun e w' => e = .returned (.tuple #[]) ∧ NI w B b l g0 T cs w' (zs ++ ys) := by
  obtain ⟨W1, hW1⟩ : ∃ x, W.alloc (.cells vs 3) = x := ⟨_, rfl⟩
  have b1 : Below W.heap.size W W1 := by rw [← hW1]; exact bel_boxI _ _
  have k1 : Blk W1 W.heap.size 3 vs := by rw [← hW1]; exact Blk.new _ _ _
  rw [hW1]
  refine ni_is hl (h.below b1) (fun W' hf => ?_) hz
  have k2 : Blk W' W.heap.size 3 vs := (hf.2 _ (h.1.fresh b1 (Nat.le_refl _) k1.lt)).2.trans k1
  refine ⟨by rw [List.length_map, hn], fun _ => ⟨_, 0, rfl, k2.lt, fun i u hu => ?_⟩⟩
  rw [Nat.zero_add, k2.cell, ← Array.getElem?_toList, ha, hu]
end
theorem ni_one {w W : World} {B b g0 T : Nat} {l zs : List Int} {cs : Array Value} (hl : l.length ≤ 274877906944) (h : NI w B b l g0 T cs W zs) (z : Int) (hz : zs.length + 1 ≤ 20000000000) :
    Calls Try.prog 15 #[.pointer (some ⟨b, 0, none⟩), .slice (some ⟨W.heap.size, 0, none⟩) 1 1] (W.alloc (.cells #[.int .i64 z] 3)) fun e w' => e = .returned (.tuple #[]) ∧ NI w B b l g0 T cs w' (zs ++ [z]) := ni_num hl h [z] _ 1 rfl rfl hz
theorem ni_two {w W : World} {B b g0 T : Nat} {l zs : List Int} {cs : Array Value} (hl : l.length ≤ 274877906944) (h : NI w B b l g0 T cs W zs) (y z : Int) (hz : zs.length + 2 ≤ 20000000000) :
    Calls Try.prog 15 #[.pointer (some ⟨b, 0, none⟩), .slice (some ⟨W.heap.size, 0, none⟩) 2 2] (W.alloc (.cells #[.int .i64 y, .int .i64 z] 3)) fun e w' => e = .returned (.tuple #[]) ∧ NI w B b l g0 T cs w' (zs ++ [y, z]) := ni_num hl h [y, z] _ 2 rfl rfl hz
theorem load_u64I {w : World} {b o : Nat} {v : Int} (h : w.cell? ⟨b, o, none⟩ = some (.int .u64 v)) : (Instr.loadAt 36 (.pointer (some ⟨b, o, none⟩))).run Try.prog w = .ok (.int .u64 v) w := by
  simp [go_sem, h]
theorem wf_u64 {z : Int} (h : (Lit.int .u64 z).wf = true) : z = ((nz z : Nat) : Int) := by
  simp only [Lit.wf, Bool.and_eq_true, decide_eq_true_eq] at h
  have h1 : (0 : Int) ≤ z := h.1
  have h2 : z ≤ 18446744073709551615 := h.2
  unfold nz; omega
theorem wf_i32 {z : Int} (h : (Lit.int .i32 z).wf = true) : -2147483648 ≤ z ∧ z ≤ 2147483647 := by
  simp only [Lit.wf, Bool.and_eq_true, decide_eq_true_eq] at h
  exact h
theorem flat_step {ls : List IS} {k : Nat} {x : IS} (h : ls[k]? = some x) : (ls.take (k + 1)).flatMap lsZ = (ls.take k).flatMap lsZ ++ lsZ x := by
  rw [List.take_add_one, h]; simp
theorem flat_le {ls : List IS} (h : ∀ x ∈ ls, (lsZ x).length ≤ 81) : ∀ k, ((ls.take k).flatMap lsZ).length ≤ 81 * k
  | 0 => by simp
  | k + 1 => by
    have := flat_le h k
    rcases hx : ls[k]? with _ | x
    · have e : ls.take (k + 1) = ls.take k := by rw [List.take_add_one, hx]; simp
      rw [e]; omega
    · rw [flat_step hx, List.length_append]
      have := h x (List.mem_of_getElem? hx)
      omega
theorem map_step {vxs : List Int} {k : Nat} (h : k < vxs.length) : (vxs.take (k + 1)).map zigF = (vxs.take k).map zigF ++ [zigF (ig vxs k)] := by
  rw [take_step h, List.map_append]; rfl
theorem yieldsIf_conv32 {ops : Array Oper} {S : World → Prop} {o : Oper} {a : Act} {z : Int} (hz : -2147483648 ≤ z ∧ z ≤ 2147483647) (hw : Region.wanted o (yielded ops a.tmps) = true) (x : Operand) (ho : o.op = .convert 21 2 x) (hx : a.eval x = .int .i32 z) : YieldsIf Try.prog ops S o (.int .i64 z) a := by
  refine .inl ⟨hw, fun w _ => ?_⟩
  have u1 := run_underlying (P := Try.prog) Try.underlying21
  have u2 := run_underlying (P := Try.prog) Try.underlying2
  have hwr : IntKind.i64.wrap z = z := by rw [IntKind.wrap_i64]; omega
  unfold execOp
  simp only [ho, hx]
  simp [go_sem, convert, u1, u2, hwr]
set_option maxRecDepth 100000 in
set_option maxHeartbeats 4000000 in
theorem wr_node (B b : Nat) (l : List Int) (d : ND) (w : World) (hw : BwS w B b l) (hd : d.At w B) (ht : (Lit.int .u64 d.tags).wf = true) (hv : d.vec.n ≤ 4096) (hl : d.ln ≤ 10) (hx : ∀ x ∈ d.ls, x.n ≤ 80) (hll : l.length ≤ 274877906944) :
    Calls Try.prog 18 #[.pointer (some ⟨b, 0, none⟩), .agg d.cells] w (WrR B b l (numsZ (ndZ d)) w) := by
  have HD := Lib.hid hd
  have HLL := Lib.hid hll
  have hvl := hd.1.len
  have hlln := hd.len
  have HX : Hid (∀ x ∈ d.ls, (lsZ x).length ≤ 81) := fun x hx' => by
    have := hx x hx'
    have := (hd.2.2.2.2.1 x hx').len
    simp [lsZ]; omega
  have HXV : Hid (∀ z ∈ d.vec.xs, -2147483648 ≤ z ∧ z ≤ 2147483647) := fun z hz => wf_i32 (hd.1.2.2.2 z hz)
  have hid := wf_u64 hd.2.2.2.2.2.1
  have htg := wf_u64 ht
  obtain ⟨w1, hw1⟩ : ∃ x, w.alloc (.cells d.cells 42) = x := ⟨_, rfl⟩
  have HN1 : Hid (NI w B b l w.heap.size 42 d.cells w1 []) := by
    have b1 : Below w.heap.size w w1 := by rw [← hw1]; exact bel_boxI _ _
    have k1 : Blk w1 w.heap.size 42 d.cells := by rw [← hw1]; exact Blk.new _ _ _
    have hf : BwF B b w w1 := BwF.of (by have := hw.lt; have := hw.base; omega) hw.lt b1
    refine ⟨by simpa [numsZ] using hw.below b1, hf, k1, hw.fresh b1 (Nat.le_refl _) k1.lt⟩
  clear hd hw hx hll ht
  obtain ⟨id, ⟨VA, vn, vc, vxs⟩, tags, level, LA, ln, lc, ls, next, prev⟩ := d
  dsimp only at *
  obtain ⟨mi, hmi⟩ : ∃ m, nz id = m := ⟨_, rfl⟩
  obtain ⟨mt, hmt⟩ : ∃ m, nz tags = m := ⟨_, rfl⟩
  have HMI : Hid (mi < 18446744073709551616) := by show _ < _; rw [← hmi]; exact nz_lt _
  have HMT : Hid (mt < 18446744073709551616) := by show _ < _; rw [← hmt]; exact nz_lt _
  rw [hmi] at hid
  rw [hmt] at htg
  subst hid htg
  have HMI2 : Hid (numL mi = numsZ [((mi : Nat) : Int)]) := by show _ = _; rw [numsZ_one, nz_nat HMI.out]
  have HMT2 : Hid (numL mt = numsZ [((mt : Nat) : Int)]) := by show _ = _; rw [numsZ_one, nz_nat HMT.out]
  clear hmi hmt
  simp only [ND.cells, IS.v] at hw1 HN1 ⊢
  go_enter Try.func18, Try.ntmps18
  go_upto_region 1 with fail
  (try rw [hw1])
  clear hw1
  go_upto_region 2 with (go_at_call 15; (with_reducible refine (ni_one HLL.out HN1.out 1 ?hz).mono ?_); (case hz => simp); rintro e w2 ⟨rfl, h2⟩; have HN2 := Lib.hid h2; clear h2)
  refine wp_region_held_drew (S := fun W' => Blk W' w.heap.size 42 #[.int .u64 (mi : Int), .slice VA vn vc, .int .u64 (mt : Int), .int .i64 level, .slice LA ln lc, .int .i64 next, .int .i64 prev]) (by kernel_rfl) (HN2.out.below (below_drewN (Below.refl _ w2) 1)).2.2.1 (fun hH => ?_)
  have HNW := Lib.hid (HN2.out.below (below_drewN (Below.refl _ w2) 1))
  obtain ⟨WD, hWD⟩ : ∃ q, w2.drew = q := ⟨_, rfl⟩
  rw [show World.drewN _ 1 = WD from hWD] at HNW
  (try rw [hWD] at hH)
  rw [hWD]
  clear hWD
  refine wpAnyH_take (i := 0) (v := .pointer (some ⟨b, 0, none⟩)) rfl (by kernel_rfl) (by kernel_rfl) (by kernel_rfl) (fun _ _ _ h => h) (.inl ⟨by rfl, fun _ _ => by kernel_rfl⟩) hH ?_
  (try simp only [List.getElem_toArray, List.getElem_cons_zero, Act.put, List.setIfInBounds_toArray, List.set_cons_zero, List.set_cons_succ])
  refine wpAnyH_take (i := 1) (v := .pointer (some ⟨b, 0, none⟩)) rfl (by kernel_rfl) (by kernel_rfl) (by kernel_rfl) (fun _ _ _ h => h) (.inl ⟨by rfl, fun _ _ => by kernel_rfl⟩) hH ?_
  (try simp only [List.getElem_toArray, List.getElem_cons_zero, List.getElem_cons_succ, Act.put, List.setIfInBounds_toArray, List.set_cons_zero, List.set_cons_succ])
  refine wpAnyH_take (i := 2) (v := .pointer (some ⟨b, 0, none⟩)) rfl (by kernel_rfl) (by kernel_rfl) (by kernel_rfl) (fun _ _ _ h => h) (.inl ⟨by rfl, fun _ _ => by kernel_rfl⟩) hH ?_
  (try simp only [List.getElem_toArray, List.getElem_cons_zero, List.getElem_cons_succ, Act.put, List.setIfInBounds_toArray, List.set_cons_zero, List.set_cons_succ])
  refine wpAnyH_take (i := 3) (v := .pointer (some ⟨w.heap.size, 0, none⟩)) rfl (by kernel_rfl) (by kernel_rfl) (by kernel_rfl) (fun _ _ _ h => h) (.inl ⟨by rfl, fun _ _ => by kernel_rfl⟩) hH ?_
  (try simp only [List.getElem_toArray, List.getElem_cons_zero, List.getElem_cons_succ, Act.put, List.setIfInBounds_toArray, List.set_cons_zero, List.set_cons_succ])
  refine wpAnyH_take (i := 4) (v := .pointer (some ⟨w.heap.size, 0, none⟩)) rfl (by kernel_rfl) (by kernel_rfl) (by kernel_rfl) (fun _ _ _ h => h) (.inl ⟨by rfl, fun _ _ => by kernel_rfl⟩) hH ?_
  (try simp only [List.getElem_toArray, List.getElem_cons_zero, List.getElem_cons_succ, Act.put, List.setIfInBounds_toArray, List.set_cons_zero, List.set_cons_succ])
  refine wpAnyH_take (i := 5) (v := .int .u64 (mi : Int)) rfl (by kernel_rfl) (by kernel_rfl) (by kernel_rfl) (fun _ _ _ h => h) (yieldsIf_loadP (by rfl) _ rfl rfl (fun _ q => load_u64I (q.cell 0))) hH ?_
  (try simp only [List.getElem_toArray, List.getElem_cons_zero, List.getElem_cons_succ, Act.put, List.setIfInBounds_toArray, List.set_cons_zero, List.set_cons_succ])
  refine wpAnyH_call 6 39 #[.int .u64 (mi : Nat)] _ (by kernel_rfl) (by rfl) (by kernel_rfl) (by kernel_rfl) (lit_num mi HMI.out _) ?_
  rintro e Z1 ⟨rfl, hb1⟩
  have HZ1 := Lib.hid (HNW.out.below hb1)
  clear hb1
  refine ⟨_, rfl, HZ1.out.2.2.1, ?_⟩
  (try simp only [List.getElem_toArray, List.getElem_cons_zero, List.getElem_cons_succ, Act.put, List.setIfInBounds_toArray, List.set_cons_zero, List.set_cons_succ])
  refine wpAnyH_call 7 14 #[.pointer (some ⟨b, 0, none⟩), .string (strOfNums (numL mi))] _ (by kernel_rfl) (by rfl) (by kernel_rfl) (by kernel_rfl) (bw_write B b _ _ _ HZ1.out.1 (by have := HLL.out; have := (len_num mi).1; have := numsZ_len ([] ++ [1] : List Int); simp only [List.length_append, List.length_cons, List.length_nil] at *; omega) (by have := HZ1.out.1.lt; have := HZ1.out.1.base; omega)) ?_
  rintro e w3 ⟨rfl, hu, hf2⟩
  have HN3 := Lib.hid (HZ1.out.wrote hu.s hf2 HMI2.out)
  clear hu hf2 HZ1
  refine ⟨_, rfl, HN3.out.2.2.1, ?_⟩
  (try simp only [List.getElem_toArray, List.getElem_cons_zero, List.getElem_cons_succ, Act.put, List.setIfInBounds_toArray, List.set_cons_zero, List.set_cons_succ])
  refine wpAnyH_done (by kernel_rfl) ?_ _
  clear hH HNW
  go_upto_region 3 with fail
  refine wp_region_held_drew (S := fun W' => Blk W' w.heap.size 42 #[.int .u64 (mi : Int), .slice VA vn vc, .int .u64 (mt : Int), .int .i64 level, .slice LA ln lc, .int .i64 next, .int .i64 prev]) (by kernel_rfl) (HN3.out.below (below_drewN (Below.refl _ w3) 1)).2.2.1 (fun hH => ?_)
  have HNW := Lib.hid (HN3.out.below (below_drewN (Below.refl _ w3) 1))
  obtain ⟨WD, hWD⟩ : ∃ q, w3.drew = q := ⟨_, rfl⟩
  rw [show World.drewN _ 1 = WD from hWD] at HNW
  (try rw [hWD] at hH)
  rw [hWD]
  clear hWD
  refine wpAnyH_take (i := 0) (v := .pointer (some ⟨b, 0, none⟩)) rfl (by kernel_rfl) (by kernel_rfl) (by kernel_rfl) (fun _ _ _ h => h) (.inl ⟨by rfl, fun _ _ => by kernel_rfl⟩) hH ?_
  (try simp only [List.getElem_toArray, List.getElem_cons_zero, Act.put, List.setIfInBounds_toArray, List.set_cons_zero, List.set_cons_succ])
  refine wpAnyH_take (i := 1) (v := .pointer (some ⟨b, 0, none⟩)) rfl (by kernel_rfl) (by kernel_rfl) (by kernel_rfl) (fun _ _ _ h => h) (.inl ⟨by rfl, fun _ _ => by kernel_rfl⟩) hH ?_
  (try simp only [List.getElem_toArray, List.getElem_cons_zero, List.getElem_cons_succ, Act.put, List.setIfInBounds_toArray, List.set_cons_zero, List.set_cons_succ])
  refine wpAnyH_take (i := 2) (v := .pointer (some ⟨b, 0, none⟩)) rfl (by kernel_rfl) (by kernel_rfl) (by kernel_rfl) (fun _ _ _ h => h) (.inl ⟨by rfl, fun _ _ => by kernel_rfl⟩) hH ?_
  (try simp only [List.getElem_toArray, List.getElem_cons_zero, List.getElem_cons_succ, Act.put, List.setIfInBounds_toArray, List.set_cons_zero, List.set_cons_succ])
  refine wpAnyH_take (i := 3) (v := .pointer (some ⟨w.heap.size, 0, none⟩)) rfl (by kernel_rfl) (by kernel_rfl) (by kernel_rfl) (fun _ _ _ h => h) (.inl ⟨by rfl, fun _ _ => by kernel_rfl⟩) hH ?_
  (try simp only [List.getElem_toArray, List.getElem_cons_zero, List.getElem_cons_succ, Act.put, List.setIfInBounds_toArray, List.set_cons_zero, List.set_cons_succ])
  refine wpAnyH_take (i := 4) (v := .pointer (some ⟨w.heap.size, 2, none⟩)) rfl (by kernel_rfl) (by kernel_rfl) (by kernel_rfl) (fun _ _ _ h => h) (.inl ⟨by rfl, fun _ _ => by kernel_rfl⟩) hH ?_
  (try simp only [List.getElem_toArray, List.getElem_cons_zero, List.getElem_cons_succ, Act.put, List.setIfInBounds_toArray, List.set_cons_zero, List.set_cons_succ])
  refine wpAnyH_take (i := 5) (v := .int .u64 (mt : Int)) rfl (by kernel_rfl) (by kernel_rfl) (by kernel_rfl) (fun _ _ _ h => h) (yieldsIf_loadP (by rfl) _ rfl rfl (fun _ q => load_u64I (q.cell 2))) hH ?_
  (try simp only [List.getElem_toArray, List.getElem_cons_zero, List.getElem_cons_succ, Act.put, List.setIfInBounds_toArray, List.set_cons_zero, List.set_cons_succ])
  refine wpAnyH_call 6 39 #[.int .u64 (mt : Nat)] _ (by kernel_rfl) (by rfl) (by kernel_rfl) (by kernel_rfl) (lit_num mt HMT.out _) ?_
  rintro e Z1 ⟨rfl, hb1⟩
  have HZ1 := Lib.hid (HNW.out.below hb1)
  clear hb1
  refine ⟨_, rfl, HZ1.out.2.2.1, ?_⟩
  (try simp only [List.getElem_toArray, List.getElem_cons_zero, List.getElem_cons_succ, Act.put, List.setIfInBounds_toArray, List.set_cons_zero, List.set_cons_succ])
  refine wpAnyH_call 7 14 #[.pointer (some ⟨b, 0, none⟩), .string (strOfNums (numL mt))] _ (by kernel_rfl) (by rfl) (by kernel_rfl) (by kernel_rfl) (bw_write B b _ _ _ HZ1.out.1 (by have := HLL.out; have := (len_num mt).1; have := numsZ_len ([] ++ [1] ++ [((mi : Nat) : Int)] : List Int); simp only [List.length_append, List.length_cons, List.length_nil] at *; omega) (by have := HZ1.out.1.lt; have := HZ1.out.1.base; omega)) ?_
  rintro e w4 ⟨rfl, hu, hf2⟩
  have HN4 := Lib.hid (HZ1.out.wrote hu.s hf2 HMT2.out)
  clear hu hf2 HZ1
  refine ⟨_, rfl, HN4.out.2.2.1, ?_⟩
  (try simp only [List.getElem_toArray, List.getElem_cons_zero, List.getElem_cons_succ, Act.put, List.setIfInBounds_toArray, List.set_cons_zero, List.set_cons_succ])
  refine wpAnyH_done (by kernel_rfl) ?_ _
  clear hH HNW
  clear HN1 HN2 HMI HMT HMI2 HMT2
  replace HN4 : Hid (NI w B b l w.heap.size 42 #[.int .u64 (mi : Int), .slice VA vn vc, .int .u64 (mt : Int), .int .i64 level, .slice LA ln lc, .int .i64 next, .int .i64 prev] w4 [1, (mi : Int), (mt : Int)]) := HN4
  have c1 : w4.cell? ⟨w.heap.size, 1, none⟩ = some (.slice VA vn vc) := HN4.out.2.2.1.cell 1
  go_upto_region 5 with (go_at_call 15; (with_reducible refine (ni_one HLL.out HN4.out ((vn : Nat) : Int) ?hz).mono ?_); (case hz => simp); rintro e w5 ⟨rfl, h5⟩; have HN5 := Lib.hid h5; clear h5)
  clear c1 HN3
  replace HN5 : Hid (NI w B b l w.heap.size 42 #[.int .u64 (mi : Int), .slice VA vn vc, .int .u64 (mt : Int), .int .i64 level, .slice LA ln lc, .int .i64 next, .int .i64 prev] w5 ([1, (mi : Int), (mt : Int), ((vn : Nat) : Int)] ++ (vxs.take 0).map zigF)) := HN5
  have c1 : w5.cell? ⟨w.heap.size, 1, none⟩ = some (.slice VA vn vc) := HN5.out.2.2.1.cell 1
  go_upto_region 6 with fail
  clear c1 HN4
  go_loopw [5, 38] (fun _ s38 wr => ∃ k : Nat, k ≤ vn ∧ s38 = .int .i64 k ∧ Hid (NI w B b l w.heap.size 42 #[.int .u64 (mi : Int), .slice VA vn vc, .int .u64 (mt : Int), .int .i64 level, .slice LA ln lc, .int .i64 next, .int .i64 prev] wr ([1, (mi : Int), (mt : Int), ((vn : Nat) : Int)] ++ (vxs.take k).map zigF))) (fun _ s38 _ => vn - (intOf s38).toNat)
  case atStart => exact ⟨0, Nat.zero_le _, rfl, HN5⟩
  case round =>
    obtain ⟨k, hk, rfl, hn⟩ := hrel
    clear HN5
    by_cases hlt : k < vn
    · obtain ⟨a, o, rfl, _, hc⟩ := (HD.out.below hn.out.2.1.1).1.2.2.1.atI hlt
      have hzb : -2147483648 ≤ ig vxs k ∧ ig vxs k ≤ 2147483647 := HXV.out _ (by rw [ig, List.getD_eq_getElem?_getD, List.getElem?_eq_getElem (show k < vxs.length by omega)]; exact List.getElem_mem _)
      have HMS := Lib.hid (map_step (vxs := vxs) (k := k) (by omega))
      dsimp only at hc
      obtain ⟨z, hz⟩ : ∃ z, ig vxs k = z := ⟨_, rfl⟩
      rw [hz] at hc hzb HMS
      clear hz
      obtain ⟨zg1, zg2, zg3⟩ := zagzig z (by omega) (by omega)
      obtain ⟨m, hm⟩ := Int.eq_ofNat_of_zero_le zg2
      have HM : Hid (m < 18446744073709551616) := by show _ < _; omega
      have HM2 : Hid (numL m = numsZ [((m : Nat) : Int)]) := by show _ = _; rw [numsZ_one, nz_nat HM.out]
      have HZG : Hid (∀ W, Calls Try.prog 40 #[.int .i64 z] W fun e w' => e = .returned (.int .u64 ((m : Nat) : Int)) ∧ W = w') := fun W => by
        have := pack_zig z (by omega) (by omega) W
        rw [hm] at this
        exact this
      rw [hm] at HMS
      have HLZ : Hid ((l ++ numsZ ([1, (mi : Int), (mt : Int), ((vn : Nat) : Int)] ++ (vxs.take k).map zigF)).length + (numL m).length ≤ 1099511627776) := by
        show _ ≤ _
        have h1 := numsZ_len ([1, (mi : Int), (mt : Int), ((vn : Nat) : Int)] ++ (vxs.take k).map zigF)
        have h2 := (len_num m).1
        have h3 := HLL.out
        rw [List.length_append, List.length_map, List.length_take] at h1
        rw [List.length_append]
        simp only [List.length_cons, List.length_nil] at h1
        omega
      have HZB := Lib.hid hzb
      clear zg1 zg2 zg3 hm hzb
      go_upto_region 8 with fail
      refine wp_region_held_drew (S := fun _ => True) (by kernel_rfl) trivial (fun hH => ?_)
      have HNW := Lib.hid (hn.out.below (below_drewN (Below.refl _ wr) 1))
      obtain ⟨WD, hWD⟩ : ∃ q, wr.drew = q := ⟨_, rfl⟩
      rw [show World.drewN _ 1 = WD from hWD] at HNW
      (try rw [hWD] at hH)
      rw [hWD]
      clear hWD
      refine wpAnyH_take (i := 0) (v := .pointer (some ⟨b, 0, none⟩)) rfl (by kernel_rfl) (by kernel_rfl) (by kernel_rfl) (fun _ _ _ h => h) (.inl ⟨by rfl, fun _ _ => by kernel_rfl⟩) trivial ?_
      (try simp only [List.getElem_toArray, List.getElem_cons_zero, Act.put, List.setIfInBounds_toArray, List.set_cons_zero, List.set_cons_succ])
      refine wpAnyH_take (i := 1) (v := .pointer (some ⟨b, 0, none⟩)) rfl (by kernel_rfl) (by kernel_rfl) (by kernel_rfl) (fun _ _ _ h => h) (.inl ⟨by rfl, fun _ _ => by kernel_rfl⟩) trivial ?_
      (try simp only [List.getElem_toArray, List.getElem_cons_zero, List.getElem_cons_succ, Act.put, List.setIfInBounds_toArray, List.set_cons_zero, List.set_cons_succ])
      refine wpAnyH_take (i := 2) (v := .pointer (some ⟨b, 0, none⟩)) rfl (by kernel_rfl) (by kernel_rfl) (by kernel_rfl) (fun _ _ _ h => h) (.inl ⟨by rfl, fun _ _ => by kernel_rfl⟩) trivial ?_
      (try simp only [List.getElem_toArray, List.getElem_cons_zero, List.getElem_cons_succ, Act.put, List.setIfInBounds_toArray, List.set_cons_zero, List.set_cons_succ])
      refine wpAnyH_take (i := 3) (v := .int .i32 z) rfl (by kernel_rfl) (by kernel_rfl) (by kernel_rfl) (fun _ _ _ h => h) (.inl ⟨by rfl, fun _ _ => by kernel_rfl⟩) trivial ?_
      (try simp only [List.getElem_toArray, List.getElem_cons_zero, List.getElem_cons_succ, Act.put, List.setIfInBounds_toArray, List.set_cons_zero, List.set_cons_succ])
      refine wpAnyH_take (i := 4) (v := .int .i64 z) rfl (by kernel_rfl) (by kernel_rfl) (by kernel_rfl) (fun _ _ _ h => h) (yieldsIf_conv32 HZB.out (by rfl) _ rfl rfl) trivial ?_
      (try simp only [List.getElem_toArray, List.getElem_cons_zero, List.getElem_cons_succ, Act.put, List.setIfInBounds_toArray, List.set_cons_zero, List.set_cons_succ])
      refine wpAnyH_call 5 40 #[.int .i64 z] _ (by kernel_rfl) (by rfl) (by kernel_rfl) (by kernel_rfl) (HZG.out _) ?_
      rintro e Z0 ⟨rfl, rfl⟩
      refine ⟨_, rfl, trivial, ?_⟩
      (try simp only [List.getElem_toArray, List.getElem_cons_zero, List.getElem_cons_succ, Act.put, List.setIfInBounds_toArray, List.set_cons_zero, List.set_cons_succ])
      refine wpAnyH_call 6 39 #[.int .u64 (m : Nat)] _ (by kernel_rfl) (by rfl) (by kernel_rfl) (by kernel_rfl) (lit_num m HM.out _) ?_
      rintro e Z1 ⟨rfl, hb1⟩
      have HZ1 := Lib.hid (HNW.out.below hb1)
      clear hb1
      refine ⟨_, rfl, trivial, ?_⟩
      (try simp only [List.getElem_toArray, List.getElem_cons_zero, List.getElem_cons_succ, Act.put, List.setIfInBounds_toArray, List.set_cons_zero, List.set_cons_succ])
      refine wpAnyH_call 7 14 #[.pointer (some ⟨b, 0, none⟩), .string (strOfNums (numL m))] _ (by kernel_rfl) (by rfl) (by kernel_rfl) (by kernel_rfl) (bw_write B b _ _ _ HZ1.out.1 (HLZ.out) (by have := HZ1.out.1.lt; have := HZ1.out.1.base; omega)) ?_
      rintro e Z2 ⟨rfl, hu, hf2⟩
      have HN9 := Lib.hid (HZ1.out.wrote hu.s hf2 HM2.out)
      clear hu hf2 HZ1
      refine ⟨_, rfl, trivial, ?_⟩
      (try simp only [List.getElem_toArray, List.getElem_cons_zero, List.getElem_cons_succ, Act.put, List.setIfInBounds_toArray, List.set_cons_zero, List.set_cons_succ])
      refine wpAnyH_done (by kernel_rfl) ?_ _
      clear hH HNW
      clear hn HZG HM HM2
      go_wp2_with fail
      go_roundw
      case rel => exact ⟨k + 1, by omega, by go_num, by show NI _ _ _ _ _ _ _ _ _; rw [HMS.out, ← List.append_assoc]; exact HN9.out⟩
      case measure => simp [intOf]; omega
    · obtain rfl : vn = k := by omega
      have hE : vxs.take vn = vxs := List.take_of_length_le (by omega)
      rw [hE] at hn
      clear hE hlt hk
      have c3 : wr.cell? ⟨w.heap.size, 3, none⟩ = some (.int .i64 level) := hn.out.2.2.1.cell 3
      go_upto_region 11 with (go_at_call 15; (with_reducible refine (ni_one HLL.out hn.out level ?hz).mono ?_); (case hz => (simp; omega)); rintro e w7 ⟨rfl, h7⟩; have HN7 := Lib.hid h7; clear h7)
      clear c3
      have c4 : w7.cell? ⟨w.heap.size, 4, none⟩ = some (.slice LA ln lc) := HN7.out.2.2.1.cell 4
      go_upto_region 12 with fail
      clear c4 hn
      go_loopw [7, 59] (fun _ s59 wq => ∃ j : Nat, j ≤ ln ∧ s59 = .int .i64 j ∧ Hid (NI w B b l w.heap.size 42 #[.int .u64 (mi : Int), .slice VA vn vc, .int .u64 (mt : Int), .int .i64 level, .slice LA ln lc, .int .i64 next, .int .i64 prev] wq ([1, (mi : Int), (mt : Int), ((vn : Nat) : Int)] ++ vxs.map zigF ++ [level] ++ (ls.take j).flatMap lsZ))) (fun _ s59 _ => ln - (intOf s59).toNat)
      case atStart => exact ⟨0, Nat.zero_le _, rfl, by show NI _ _ _ _ _ _ _ _ _; simpa using HN7.out⟩
      case round =>
        obtain ⟨j, hj, rfl, hn⟩ := hrel
        clear HN7
        have HFL : Hid (((ls.take j).flatMap lsZ).length ≤ 81 * j) := flat_le HX.out j
        by_cases hlt : j < ln
        · obtain ⟨a, o, x, eA, _, hx, hc, _⟩ := (HD.out.below hn.out.2.1.1).list hlt
          have hxa := HD.out.2.2.2.2.1 x (List.mem_of_getElem? hx)
          have HFS := Lib.hid (flat_step hx)
          have hxn := HX.out x (List.mem_of_getElem? hx)
          obtain ⟨XA, xn, xc, xxs⟩ := x
          simp only [IS.v] at hc
          have hxl : xxs.length = xn := hxa.len
          have HXN : Hid (xn ≤ 80) := by show _ ≤ _; simp [lsZ] at hxn; omega
          have HXA := Lib.hid hxa
          dsimp only at eA
          subst eA
          clear hx hxa hxn
          go_upto_region 15 with (go_at_call 15; (with_reducible refine (ni_one HLL.out hn.out ((xn : Nat) : Int) ?hz).mono ?_); (case hz => (have := HFL.out; simp only [List.length_append, List.length_cons, List.length_nil, List.length_map]; omega)); rintro e w8 ⟨rfl, h8⟩; have HN8 := Lib.hid h8; clear h8)
          have HRR : Hid (∀ W', BwF B b w8 W' → Rd W' W'.heap.size XA xn (xxs.map (.int .i64))) := fun W' hf => ((HXA.out.below (HN8.out.2.1.1.trans hf.1)).2.2.1).more (by have := HN8.out.1.lt; have := HN8.out.1.base; have := hf.1.size; omega)
          go_upto_region 16 with (go_at_call 15; (with_reducible refine (ni_is HLL.out HN8.out HRR.out ?hz).mono ?_); (case hz => (have := HFL.out; have := HXN.out; simp only [List.length_append, List.length_cons, List.length_nil, List.length_map]; omega)); rintro e w9 ⟨rfl, h9⟩; have HN9 := Lib.hid h9; clear h9)
          clear hn HN8 HRR HXA
          go_wp2_with fail
          go_roundw
          case rel => exact ⟨j + 1, by omega, by go_num, by
            show NI _ _ _ _ _ _ _ _ _
            rw [HFS.out, ← List.append_assoc]
            have := HN9.out
            rw [List.append_assoc _ [((xn : Nat) : Int)] xxs] at this
            exact this⟩
          case measure => simp [intOf]; omega
        · obtain rfl : j = ln := by omega
          have hE : ls.take j = ls := List.take_of_length_le (by omega)
          rw [hE] at hn HFL
          clear hE hlt hj
          have c5 : wr.cell? ⟨w.heap.size, 5, none⟩ = some (.int .i64 next) := hn.out.2.2.1.cell 5
          have c6 : wr.cell? ⟨w.heap.size, 6, none⟩ = some (.int .i64 prev) := hn.out.2.2.1.cell 6
          go_wp2_with (go_at_call 15; (with_reducible refine (ni_two HLL.out hn.out next prev ?hz).mono ?_); (case hz => (have := HFL.out; simp only [List.length_append, List.length_cons, List.length_nil, List.length_map]; omega)); rintro e wz ⟨rfl, hz⟩; have HNZ := Lib.hid hz; clear hz)
          go_end0
          exact ⟨rfl, HNZ.out.1, HNZ.out.2.1⟩
/-- A sum's bytes. -/
def sumB (l : List Int) : List Int := [sumL l % 256, sumL l / 256 % 256, sumL l / 65536 % 256, sumL l / 16777216]
theorem sum_bd (l : List Int) : 0 ≤ sumL l ∧ sumL l < 4294967296 := by
  have key : ∀ (m : List Int) (s : Int), 0 ≤ s ∧ s < 4294967296 → 0 ≤ m.foldl sumStep s ∧ m.foldl sumStep s < 4294967296 := by
    intro m
    induction m with
    | nil => intro s h; exact h
    | cons b m ih => intro s h; exact ih _ (by unfold sumStep; omega)
  exact key l _ (by decide)
theorem conv_row {P : Program} {src dst e : TypeId} (hs : P.underlying src = some (.slice e)) (he : P.underlying e = some (.int .u8)) (hd : P.underlying dst = some .string) (w : World) (n : Nat) (cs : Array Value) (l : List Int) (hl : l.length = n) (hc : cs.toList = l.map (.int .u8)) :
    (convert src dst (.slice (some ⟨w.heap.size, 0, none⟩) n n)).run P (w.alloc (.cells cs e)) = .ok (.string (strOfNums l)) (w.alloc (.cells cs e)) := by
  refine run_convert_bytes_arg _ src e hs he w.heap.size 0 n n l hl (fun i hi => ?_) dst hd
  rw [Nat.zero_add, World.cell?_alloc_at _ _ _ _ rfl]
  show cs[i]? = _
  rw [← Array.getElem?_toList, hc, List.getElem?_map]
  subst hl
  rw [List.getElem?_eq_getElem hi]
  simp [List.getD_eq_getElem?_getD, List.getElem?_eq_getElem hi]
set_option maxRecDepth 100000 in
set_option maxHeartbeats 1000000 in
theorem im_sum (l : List Int) (hl : Bytes l) (hn : l.length ≤ 4611686018427387904) (w : World) :
    Calls Try.prog 20 #[.string (strOfNums l)] w fun e w' => e = .returned (.string (strOfNums (sumB l))) ∧ Below w.heap.size w w' := by
  have HS := Lib.hid (lit_sum l hl hn)
  obtain ⟨h0, h1⟩ := sum_bd l
  have HB : Hid (sumB l = [sumL l % 256, sumL l / 256 % 256, sumL l / 65536 % 256, sumL l / 16777216]) := rfl
  obtain ⟨s, hs⟩ : ∃ s, sumL l = s := ⟨_, rfl⟩
  rw [hs] at HS HB h0 h1
  clear hs
  have hcv := fun W : World => conv_row (P := Try.prog) Try.underlying34 Try.underlying5 Try.underlying9 W 4 #[.int .u8 (s % 256), .int .u8 (s / 256 % 256), .int .u8 (s / 65536 % 256), .int .u8 (s / 16777216)] [s % 256, s / 256 % 256, s / 65536 % 256, s / 16777216] rfl rfl
  go_enter Try.func20, Try.ntmps20
  go_wp2_with (go_at_call 41; (with_reducible refine (HS.out _).mono ?_); rintro e w1 ⟨rfl, hb⟩; have B1 := Lib.hid hb; clear hb)
  go_ret
  exact ⟨by rw [HB.out]; rfl, B1.out.trans ((bel_boxI _ _).mono B1.out.size)⟩
set_option maxRecDepth 100000 in
set_option maxHeartbeats 1000000 in
theorem rf_sum (l : List Int) (hl : Bytes l) (hn : l.length ≤ 4611686018427387904) (w : World) :
    Calls Try.prog 25 #[.string (strOfNums l)] w fun e w' => e = .returned (.string (strOfNums (sumB l))) ∧ Below w.heap.size w w' := by
  have HS := Lib.hid (ref_sum l hl hn)
  obtain ⟨h0, h1⟩ := sum_bd l
  have HB : Hid (sumB l = [sumL l % 256, sumL l / 256 % 256, sumL l / 65536 % 256, sumL l / 16777216]) := rfl
  obtain ⟨s, hs⟩ : ∃ s, sumL l = s := ⟨_, rfl⟩
  rw [hs] at HS HB h0 h1
  clear hs
  have hcv := fun W : World => conv_row (P := Try.prog) Try.underlying34 Try.underlying5 Try.underlying9 W 4 #[.int .u8 (s % 256), .int .u8 (s / 256 % 256), .int .u8 (s / 65536 % 256), .int .u8 (s / 16777216)] [s % 256, s / 256 % 256, s / 65536 % 256, s / 16777216] rfl rfl
  go_enter Try.func25, Try.ntmps25
  go_wp2_with (go_at_call 45; (with_reducible refine (HS.out _).mono ?_); rintro e w1 ⟨rfl, rfl⟩)
  go_ret
  exact ⟨by rw [HB.out]; rfl, bel_boxI _ _⟩
/-- Whether an image tells all of a node. -/
def toldB (d : ND) (there : Bool) : Bool := if there then decide (d.vec.n ≤ 4096) else d.id == 0 && d.tags == 0 && d.vec.n == 0 && d.level == 0 && d.ln == 0
set_option maxRecDepth 100000 in
set_option maxHeartbeats 2000000 in
theorem im_told (d : ND) (there : Bool) (w : World) :
    Calls Try.prog 17 #[.agg d.cells, .bool there] w (RetB (toldB d there) w) := by
  obtain ⟨w1, hw1⟩ : ∃ x, w.alloc (.cells d.cells 42) = x := ⟨_, rfl⟩
  have k1 : Blk w1 w.heap.size 42 d.cells := by rw [← hw1]; exact Blk.new _ _ _
  have B1 : Hid (Below w.heap.size w w1) := by show Below _ _ _; rw [← hw1]; exact bel_boxI _ _
  have c0 := k1.cell 0
  have c1 := k1.cell 1
  have c2 := k1.cell 2
  have c3 := k1.cell 3
  have c4 := k1.cell 4
  obtain ⟨id, ⟨VA, vn, vc, vxs⟩, tags, level, LA, ln, lc, ls, next, prev⟩ := d
  simp [ND.cells, IS.v] at hw1 c0 c1 c2 c3 c4 ⊢
  clear k1
  cases there with
  | true =>
    go_enter Try.func17, Try.ntmps17
    go_upto_region 1 with fail
    (try rw [hw1])
    clear hw1
    go_wp2_with fail
    go_ret
    exact ⟨by simp [toldB]; omega, B1.out⟩
  | false =>
    by_cases h1 : id = 0
    · by_cases h2 : tags = 0
      · by_cases h3 : vn = 0
        · by_cases h4 : level = 0
          · have h5 : ((ln : Int) == 0) = decide (ln = 0) := by rw [Bool.eq_iff_iff]; simp
            subst h1 h2 h3 h4
            go_enter Try.func17, Try.ntmps17
            go_upto_region 1 with fail
            (try rw [hw1])
            clear hw1
            go_wp2_with fail
            go_ret
            exact ⟨by simp [toldB, Bool.beq_eq_decide_eq], B1.out⟩
          · have e4 : (level == 0) = false := by simpa using h4
            subst h1 h2 h3
            go_enter Try.func17, Try.ntmps17
            go_upto_region 1 with fail
            (try rw [hw1])
            clear hw1
            go_wp2_with fail
            go_ret
            exact ⟨by simp [toldB, e4], B1.out⟩
        · have e3 : ((vn : Int) == 0) = false := by simp; omega
          subst h1 h2
          go_enter Try.func17, Try.ntmps17
          go_upto_region 1 with fail
          (try rw [hw1])
          clear hw1
          go_wp2_with fail
          go_ret
          exact ⟨by simp [toldB, h3], B1.out⟩
      · have e2 : (tags == 0) = false := by simpa using h2
        subst h1
        go_enter Try.func17, Try.ntmps17
        go_upto_region 1 with fail
        (try rw [hw1])
        clear hw1
        go_wp2_with fail
        go_ret
        exact ⟨by simp [toldB, e2], B1.out⟩
    · have e1 : (id == 0) = false := by simpa using h1
      go_enter Try.func17, Try.ntmps17
      go_upto_region 1 with fail
      (try rw [hw1])
      clear hw1
      go_wp2_with fail
      go_ret
      exact ⟨by simp [toldB, e1], B1.out⟩
/-- Two texts, put together. -/
theorem yieldsIf_cat {ops : Array Oper} {S : World → Prop} {o : Oper} {a : Act} {s t r : ByteArray} (hr : s ++ t = r) (hsz : s.size + t.size ≤ 9223372036854775807) (hw : Region.wanted o (yielded ops a.tmps) = true) (x y : Operand) (ho : o.op = .binOp .add 9 x y 9) (hx : a.eval x = .string s) (hy : a.eval y = .string t) : YieldsIf Try.prog ops S o (.string r) a := by
  refine .inl ⟨hw, fun w _ => ?_⟩
  subst hr
  unfold execOp
  simp only [ho, hx, hy]
  simp [go_sem, hsz]
set_option maxRecDepth 100000 in
theorem rf_num (z : Int) (w : World) : Calls Try.prog 22 #[.int .i64 z] w fun e w' => e = .returned (.string (strOfNums (numsZ [z]))) ∧ Below w.heap.size w w' := by
  have hzc := nz_cast z
  have hz : z % 18446744073709551616 = ((nz z : Nat) : Int) := by unfold nz; omega
  have HN := Lib.hid (ref_num (nz z) (nz_lt z))
  have HE : Hid (numsZ [z] = numL (nz z)) := numsZ_one z
  obtain ⟨m, hm⟩ : ∃ m, nz z = m := ⟨_, rfl⟩
  rw [hm] at hz HN HE hzc
  clear hm
  go_enter Try.func22, Try.ntmps22
  go_wp2_with (go_at_call 43; (with_reducible refine (HN.out _).mono ?_); rintro e w1 ⟨rfl, hb⟩; have B1 := Lib.hid hb; clear hb)
  go_ret
  exact ⟨by rw [HE.out]; rfl, B1.out⟩
end Go.Proofs.Ytbpcddimnbjoeaa
