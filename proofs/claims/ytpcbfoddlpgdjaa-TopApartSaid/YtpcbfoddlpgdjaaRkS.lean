/- Spots in order: Sort, Least. -/
import Derived.Test.YtpcbfoddlpgdjaaRkA
import Derived.Test.YtpcbfoddlpgdjaaRkL
import Derived.Lib.OwnBridge
import Derived.Sort.LotA
import Derived.Laws.AppendOwnNone
import Derived.Shelf.Small.Bits
import Derived.Maps.AppendAt
import Derived.Deep.OwnRows
namespace Go.Proofs.Ytpcbfoddlpgdjaa
open Go.RowKit Go.Shelf
instance spInh : Inhabited Sp := ⟨⟨0, 0, 0⟩⟩
def spL (x : Sp) : List Value := [.int .u64 x.d, .int .u64 x.id, .int .i64 x.s]
theorem spL_len (x : Sp) : (spL x).length = 3 := rfl
theorem spL_one (x : Sp) : ∀ v ∈ spL x, v.oneCell' = true := by
  intro v hv
  simp only [spL, List.mem_cons, List.not_mem_nil, or_false] at hv
  rcases hv with rfl | rfl | rfl <;> rfl
/-- A slice of spots. -/
def SpAt (w : World) (B : Nat) (A : Option Addr) (n : Nat) (l : List Sp) : Prop := Rs w B A n 3 (l.map spL)
theorem SpAt.len {w : World} {B : Nat} {A : Option Addr} {n : Nat} {l : List Sp} (h : SpAt w B A n l) : l.length = n := by have := Rs.len h; simpa using this
theorem SpAt.below {w w' : World} {B : Nat} {A : Option Addr} {n : Nat} {l : List Sp} (h : SpAt w B A n l) (hb : Below B w w') : SpAt w' B A n l := Rs.below h hb
theorem SpAt.more {w : World} {B B' : Nat} {A : Option Addr} {n : Nat} {l : List Sp} (h : SpAt w B A n l) (hB : B ≤ B') : SpAt w B' A n l := Rs.more h hB
theorem SpAt.nil_ {w : World} {B : Nat} : SpAt w B none 0 [] := Rs.nil_
def flatS (l : List Sp) : List Value := (l.map spL).flatten
theorem flatS_len (l : List Sp) : (flatS l).length = l.length * 3 := by
  unfold flatS
  rw [flat_len (sz := 3) _ (fun c hc => by obtain ⟨x, _, rfl⟩ := List.mem_map.1 hc; rfl), List.length_map]
theorem flatS_one (l : List Sp) : ∀ u ∈ flatS l, u.oneCell' = true := by
  intro u hu
  obtain ⟨c, hc, hu⟩ := List.mem_flatten.1 hu
  obtain ⟨x, _, rfl⟩ := List.mem_map.1 hc
  exact spL_one x u hu
theorem info_spotK : (Try.prog.info? 35).map (fun i => (i.zero, i.size, i.bytes)) = some (some (.agg #[.int .u64 0, .int .u64 0, .int .i64 0]), 3, 24) := by kernel_rfl
set_option maxRecDepth 100000 in
/-- 'append([]E{}, l...)'. -/
theorem wpList_cloneW {ops : Array Oper} {rest : List Oper} {o : Oper} {a : Act} {Q : Exit → Act → World → Prop} (hgd : o.guard = none) (s x : Operand) (T e sz bytes : Nat) (z : Value)
    (ho : o.op = .call { callee := .builtin .append, args := #[s, x], argTypes := #[T, T] })
    (hT : Try.prog.underlying T = some (.slice e)) (hinfo : (Try.prog.info? e).map (fun i => (i.zero, i.size, i.bytes)) = some (some z, sz, bytes)) (hzs : z.cells.size = sz) (hsz : 0 < sz)
    (w0 : World) (A : Option Addr) (n c : Nat) (xs : List Value) (hs : a.eval s = .slice (some ⟨w0.heap.size, 0, none⟩) 0 0) (hx : a.eval x = .slice A n c) (hl : xs.length = n * sz)
    (hr : 0 < n → ∃ b o, A = some ⟨b, o, none⟩ ∧ b < w0.heap.size ∧ ∀ j u, xs[j]? = some u → w0.cell? ⟨b, o + j, none⟩ = some u) (h1 : ∀ u ∈ xs, u.oneCell' = true)
    (hA : A = none → n = 0 ∧ c = 0) (hn : n ≤ 2097152) (hby : bytes ≤ 88)
    (h : ∀ A' c' w', w'.ownsRow w0.heap.size e sz (.slice A' n c') n xs → A' ≠ none → Below w0.heap.size w0 w' → wpList Try.prog ops Q rest (a.put o.dst (.slice A' n c')) w') :
    wpList Try.prog ops Q (o :: rest) a (w0.alloc (.cells #[] e)) := by
  obtain ⟨i, hi, hz, hz1, hz2⟩ := info_parts hinfo
  have hb0 : Below w0.heap.size w0 (w0.alloc (.cells #[] e)) := (Below.refl _ w0).alloc (Nat.le_refl _) _
  have hown : (w0.alloc (.cells #[] e)).ownsRow w0.heap.size e sz (.slice (some ⟨w0.heap.size, 0, none⟩) 0 0) 0 [] :=
    ⟨by simp, Or.inr ⟨w0.heap.size, 0, #[], rfl, Nat.le_refl _, heap_alloc_new w0 _, Nat.le_refl _, Nat.zero_le _, by simp, by simp⟩⟩
  cases A with
  | none =>
    obtain ⟨rfl, rfl⟩ := hA rfl
    have : xs = [] := List.eq_nil_of_length_eq_zero (by rw [hl, Nat.zero_mul])
    subst this
    refine wpList_append_own_none hgd s x T ho w0.heap.size e i sz hT hi _ 0 [] hs hown hx ?_
    exact h _ _ _ hown (by simp) hb0
  | some ad =>
    have hc : ∀ j u, xs[j]? = some u → (w0.alloc (.cells #[] e)).cell? (ad.add j) = some u := by
      intro j u hu
      have hj : j < n * sz := by
        have := (List.getElem?_eq_some_iff.1 hu).1
        rw [hl] at this
        exact this
      obtain ⟨b, o, e, hb, hcc⟩ := hr (Nat.pos_of_ne_zero (by rintro rfl; rw [Nat.zero_mul] at hj; omega))
      injection e with e
      subst e
      rw [Addr.add_lit]
      exact (hb0.cell (p := ⟨b, o + j, none⟩) hb).trans (hcc j u hu)
    refine wpList_append_own _ hgd s x T ho w0.heap.size e i z sz bytes hT hi hz hz1 hz2 hzs hsz _ 0 [] hs hown ad n c xs hx hl hc h1
      (by unfold maxLen; omega) (by rw [Nat.zero_add]; have := Nat.mul_le_mul hn hby; omega) hb0.size ?_
    intro v' w' ho' hg hnn
    rw [List.nil_append, Nat.zero_add] at ho'
    have hb' := hb0.grown hg hb0.size (fun k hk => by injection hk with hk; exact Nat.le_of_eq hk)
    rcases ho'.2 with ⟨rfl, e0⟩ | ⟨g, cap, cur, rfl, _⟩
    · exact absurd (hnn.1 rfl).1 (by intro q; injection q with q _ _; cases q)
    · exact h _ _ _ ho' (by simp) hb'
theorem SpAt.flat {w : World} {B : Nat} {A : Option Addr} {n : Nat} {l : List Sp} (h : SpAt w B A n l) : (flatS l).length = n * 3 ∧ (0 < n → ∃ b o, A = some ⟨b, o, none⟩ ∧ b < B ∧ ∀ j u, (flatS l)[j]? = some u → w.cell? ⟨b, o + j, none⟩ = some u) := by
  refine ⟨by rw [flatS_len, h.len], fun h0 => ?_⟩
  obtain ⟨b, o, e, hb, hc⟩ := Rs.flat h (by decide) h0
  exact ⟨b, o, e, hb, fun j u hj => by rw [← Addr.add_lit]; exact hc j u hj⟩
/-- What Clone tells. -/
def RetS (n : Nat) (l : List Sp) (w : World) (en : Ending) (w' : World) : Prop := ∃ A' c', en = .returned (.slice A' n c') ∧ w'.ownsRow w.heap.size 35 3 (.slice A' n c') n (flatS l) ∧ Below w.heap.size w w'
set_option maxRecDepth 100000 in
set_option maxHeartbeats 1000000 in
theorem sp_clone (A : Option Addr) (n c : Nat) (l : List Sp) (w : World) (hg : SpAt w w.heap.size A n l) (hA : A = none → n = 0 ∧ c = 0) (hn : n ≤ 2097152) :
    Calls Try.prog 48 #[.slice A n c] w (RetS n l w) := by
  have ez := fun (w : World) (A : Option Addr) (l c : Nat) => Lib.run_eql_slice_nil (P := Try.prog) w 25 35 A l c 0 0 Try.underlying25
  obtain ⟨hl, hr⟩ := hg.flat
  have HL := Lib.hid hl
  have HR := Lib.hid hr
  have HA := Lib.hid hA
  have H1 := Lib.hid (flatS_one l)
  clear hg hl hr hA
  cases A with
  | none =>
    obtain ⟨rfl, rfl⟩ := HA.out rfl
    have HE : Hid (flatS l = []) := List.eq_nil_of_length_eq_zero HL.out
    go_enter Try.func48, Try.ntmps48
    go_wp2
    go_ret
    exact ⟨_, _, rfl, by rw [HE.out]; exact World.ownsRow_nil _ _ _ _, Below.refl _ _⟩
  | some a =>
    go_enter Try.func48, Try.ntmps48
    go_wp2_with (at_builtin; refine wpList_cloneW rfl (.tmp 5) (.tmp 6) 25 35 3 24 _ rfl Try.underlying25 info_spotK rfl (by decide) w (some a) n c (flatS l) rfl rfl HL.out HR.out H1.out HA.out (by omega) (by decide) ?_; intro A' c' w1 ho hne hb; replace ho := Lib.hid ho; replace hb := Lib.hid hb; replace hne := Lib.hid hne)
    go_ret
    exact ⟨_, _, rfl, ho.out, hb.out⟩
open Go.Sort hiding Below
theorem ah_lt : ltOf plI = ahB := rfl
theorem cmpI_neg {x y : Int} : cmpI x y < 0 ↔ x < y := by unfold cmpI; split <;> (try split) <;> omega
theorem cmpI_zero {x y : Int} : cmpI x y = 0 ↔ x = y := by unfold cmpI; split <;> (try split) <;> omega
theorem ahB_iff (a b : Sp) : ahB a b = true ↔ a.d < b.d ∨ (a.d = b.d ∧ (a.id < b.id ∨ (a.id = b.id ∧ a.s < b.s))) := by
  unfold ahB plI ordI
  rw [decide_eq_true_iff]
  have h1 := cmpI_neg (x := a.d) (y := b.d)
  have h2 := cmpI_neg (x := a.id) (y := b.id)
  have h3 := cmpI_neg (x := a.s) (y := b.s)
  have z1 := cmpI_zero (x := a.d) (y := b.d)
  have z2 := cmpI_zero (x := a.id) (y := b.id)
  split <;> (try split) <;> omega
theorem ahB_false (a b : Sp) : ahB a b = false ↔ ¬ (a.d < b.d ∨ (a.d = b.d ∧ (a.id < b.id ∨ (a.id = b.id ∧ a.s < b.s)))) := by
  rw [← ahB_iff]; simp
theorem sp_swo : SWO (ltOf plI) where
  irrefl x := by rw [ah_lt, ahB_false]; omega
  trans x y z h1 h2 := by rw [ah_lt, ahB_iff] at *; omega
  ntrans x y z h1 h2 := by rw [ah_lt, ahB_false] at *; omega
theorem sp_total (x y : Sp) (h1 : ltOf plI x y = false) (h2 : ltOf plI y x = false) : x = y := by
  rw [ah_lt, ahB_false] at *
  obtain ⟨d, i, s⟩ := x
  obtain ⟨d', i', s'⟩ := y
  simp only at h1 h2
  have e1 : d = d' := by omega
  have e2 : i = i' := by omega
  have e3 : s = s' := by omega
  rw [e1, e2, e3]
/-- Spots in order. -/
def sortSp (l : List Sp) : List Sp := l.mergeSort fun x y => !ahB y x
theorem sp_lays (blk off size : Nat) (w : World) : CmpLays Try.prog 37 #[] spL 3 plI blk off size w := fun _ _ _ _ x y => rank_place x y _
theorem below_mapBlock {B : Nat} {a w : World} (h : Below B a w) {g : Nat} (hg : B ≤ g) (f : Array Value → Array Value) : Below B a (mapBlock w g f) :=
  ⟨h.os, h.tape, h.output, Nat.le_trans h.size (by simp [mapBlock]), fun k hk => (show (w.heap.modify g _)[k]? = w.heap[k]? by rw [Array.getElem?_modify, if_neg (by omega)]).trans (h.block k hk)⟩
theorem below_sortWorld {B : Nat} {a w : World} (h : Below B a w) {g : Nat} (hg : B ≤ g) (hB : B ≤ w.heap.size) (o n : Nat) (d : Array Sp) (os : Array Obj) : Below B a (sortWorldK spL 3 w g o n d os) := by
  unfold sortWorldK putRowK putRow
  have h1 : Below B a (Go.Sort.ahead w n) := ⟨h.os, h.tape, h.output, h.size, h.block⟩
  have h2 := below_mapBlock h1 hg (putCells id o (flatK spL 3 d))
  exact ⟨h2.os, h2.tape, h2.output, Nat.le_trans h2.size (by simp [grow]), fun k hk => (show (_ ++ os)[k]? = _ from Array.getElem?_append_left (by simp [mapBlock, Go.Sort.ahead]; omega)).trans (h2.block k hk)⟩
theorem holds_own {w : World} {g : Nat} {l : List Sp} (h : ∀ j u, (flatS l)[j]? = some u → w.cell? ⟨g, j, none⟩ = some u) (hf : ∀ j, w.frozen? ⟨g, j, none⟩ = false) : HoldsK spL 3 w g 0 l.toArray := by
  intro j hj
  rw [size_flatK] at hj
  refine ⟨?_, hf _⟩
  have hj3 : j / 3 < l.length := Nat.div_lt_of_lt_mul (by simpa [Nat.mul_comm] using hj)
  rw [Nat.zero_add]
  show _ = some ((flatK spL 3 l.toArray)[j]!)
  rw [get_flatK _ _ _ _ hj]
  refine h j _ ?_
  have e := flat_get (sz := 3) (l.map spL) (fun c hc => by obtain ⟨x, _, rfl⟩ := List.mem_map.1 hc; rfl) (j / 3) (j % 3) (spL l[j / 3]) (by simp [hj3]) (Nat.mod_lt _ (by decide))
  rw [Nat.div_add_mod' j 3] at e
  show (flatS l)[j]? = _
  unfold flatS
  rw [e]
  have e2 : l.toArray[j / 3]! = l[j / 3] := by simp [hj3]
  rw [e2]
  have h3 : j % 3 < (spL l[j / 3]).length := Nat.mod_lt _ (by decide)
  exact (List.getElem?_eq_getElem h3).trans (congrArg some (getElem!_pos (spL l[j / 3]) (j % 3) h3).symm)
theorem holds_spAt {w : World} {g : Nat} {l : List Sp} (h : HoldsK spL 3 w g 0 l.toArray) {B : Nat} (hB : g < B) : SpAt w B (some ⟨g, 0, none⟩) l.length l := by
  refine ⟨by simp, fun c hc => by obtain ⟨x, _, rfl⟩ := List.mem_map.1 hc; rfl, fun _ => ⟨g, 0, rfl, hB, fun i c hi j u hu => ?_⟩⟩
  rw [List.getElem?_map] at hi
  obtain ⟨x, hx, rfl⟩ := Option.map_eq_some_iff.1 hi
  have hil : i < l.length := (List.getElem?_eq_some_iff.1 hx).1
  have hj : j < 3 := (List.getElem?_eq_some_iff.1 hu).1
  rw [(h.cell (i := i) (c := j) (by simpa using hil) hj).1]
  have e2 : l.toArray[i]! = x := by
    have := (List.getElem?_eq_some_iff.1 hx).2
    simp [hil, this]
  rw [e2]
  have h3 : j < (spL x).length := hj
  exact (congrArg some (getElem!_pos (spL x) j h3)).trans ((List.getElem?_eq_getElem h3).symm.trans hu)
theorem sortSp_len (l : List Sp) : (sortSp l).length = l.length := List.length_mergeSort _
theorem aggSp : ∀ w, (isAgg 35).run Try.prog w = .ok true w := Try.isAgg35
theorem sizeSp : ∀ w, (Go.sizeOf 35).run Try.prog w = .ok 3 w := Try.sizeOf35
set_option maxRecDepth 100000 in
theorem ins_none (A : Option Addr) (c : Nat) (fv : Value) (w : World) : Calls Try.prog 64 #[.slice A 0 c, .int .i64 0, .int .i64 0, fv] w fun e w' => e = .returned (.tuple #[]) ∧ w = w' := by
  go_enter Try.func64, Try.ntmps64
  go_wp2
  refine wp_loop_rounds 1 ?_
  rw [rounds_succ]
  go_wp2
  go_end0
  exact ⟨rfl, rfl⟩
set_option maxRecDepth 100000 in
theorem pdq_none (A : Option Addr) (c : Nat) (fv : Value) (w : World) : Calls Try.prog 58 #[.slice A 0 c, .int .i64 0, .int .i64 0, .int .i64 0, fv] w fun e w' => e = .returned (.tuple #[]) ∧ w = w' := by
  go_enter Try.func58, Try.ntmps58
  go_wp2
  refine wp_loop_rounds 1 ?_
  rw [rounds_succ]
  go_wp2_with (go_at_call 64; refine (ins_none _ _ _ _).mono ?_; rintro e w' ⟨rfl, rfl⟩)
  (try simp only [Exit.inBlock, Exit.then])
  refine bodyPost_ret (results_none rfl _ _ _) rfl ?_
  exact ⟨rfl, rfl⟩
set_option maxRecDepth 100000 in
theorem sort_none (A : Option Addr) (c : Nat) (fv : Value) (w : World) : Calls Try.prog 49 #[.slice A 0 c, fv] w fun e w' => e = .returned (.tuple #[]) ∧ w = w' := by
  have HL : ∀ w, Calls Try.prog 59 #[.int .u64 0] w fun e w' => e = .returned (.int .i64 0) ∧ w' = w := fun w => Any.bits_Len (SlLaysF0.n15.bits (P := Try.prog) (ρ := sortSpot_ren) { sortSpot with }) 0 w (by decide) (by decide)
  go_enter Try.func49, Try.ntmps49
  go_wp2_with (first | (go_at_call 59; refine (HL _).mono ?_; rintro e w' ⟨rfl, rfl⟩) | (go_at_call 58; refine (pdq_none _ _ _ _).mono ?_; rintro e w' ⟨rfl, rfl⟩))
  go_end0
  exact ⟨rfl, rfl⟩
/-- A row of the call's own, sorted. -/
theorem sp_sortFunc (A : Option Addr) (n c : Nat) (l : List Sp) (w : World) (B : Nat) (ho : w.ownsRow B 35 3 (.slice A n c) n (flatS l)) (hl : l.length = n) (hB : B ≤ w.heap.size) (hn : n ≤ 2097152) :
    Calls Try.prog 49 #[.slice A n c, .func (.func 37) #[] #[]] w fun e w' => e = .returned (.tuple #[]) ∧ SpAt w' w'.heap.size A n (sortSp l) ∧ Below B w w' := by
  rcases Nat.eq_zero_or_pos n with h0 | h0
  · subst h0
    have hl0 : l = [] := List.eq_nil_of_length_eq_zero hl
    subst hl0
    refine (sort_none A c _ w).mono ?_
    rintro e w' ⟨rfl, rfl⟩
    exact ⟨rfl, ⟨by simp [sortSp], by simp [sortSp], fun h => absurd h (by decide)⟩, Below.refl _ _⟩
  · rcases ho.2 with ⟨_, e0⟩ | ⟨g, cap, cur, ev, hg, hh, _, _, _, ht⟩
    · omega
    · injection ev with eA e1 e2
      subst eA
      have hb : Blk w g 35 cur := hh
      have hH : HoldsK spL 3 w g 0 l.toArray := holds_own (fun j u hu => by
        rw [hb.cell, ← Array.getElem?_toList]
        have hjl : j < (flatS l).length := (List.getElem?_eq_some_iff.1 hu).1
        rw [← ht, List.getElem?_take] at hu
        split at hu
        · exact hu
        · cases hu) (fun j => hb.frozen j)
      have e3 : l.toArray.size = n := by simpa using hl
      have H := AnyQ.slices_SortFunc sortSpot 3 aggSp sizeSp spL spL_len spL_one plI sp_swo 37 #[] g 0 c l.toArray w (enters_of Try.func37 (by kernel_rfl) rfl) (sp_lays g 0 _ w) hH hb.lt (by rw [e3]; omega)
      rw [e3] at H
      refine H.mono ?_
      rintro e w' ⟨rfl, d', q, os, hp, hso, rfl⟩
      rw [← e3] at hp hso
      obtain rfl : d' = (sortSp l).toArray := by
        have q : d'.toList = sortSp l := sorted_unique_holds sp_swo sp_total l.toArray d' hp hso
        rw [← q]
      refine ⟨rfl, ?_, below_sortWorld (Below.refl _ _) hg hB 0 q _ os⟩
      have hs : (sortSp l).toArray.size = l.toArray.size := by simp [sortSp_len]
      have h2 := holdsK_sortWorldK spL 3 w g 0 q l.toArray (sortSp l).toArray os hb.lt hH hs
      have h3 := holds_spAt h2 (lt_sortWorldK spL 3 w g 0 q (sortSp l).toArray os hb.lt)
      rw [sortSp_len, hl] at h3
      exact h3
/-- What Sort tells. -/
def RetO (l : List Sp) (w : World) (en : Ending) (w' : World) : Prop := ∃ A' n' c', en = .returned (.slice A' n' c') ∧ SpAt w' w'.heap.size A' n' l ∧ n' ≤ c' ∧ (A' = none → n' = 0 ∧ c' = 0) ∧ (∀ b o, A' = some ⟨b, o, none⟩ → w.heap.size ≤ b) ∧ Below w.heap.size w w'
set_option maxRecDepth 100000 in
theorem rank_sort (A : Option Addr) (n c : Nat) (l : List Sp) (w : World) (hg : SpAt w w.heap.size A n l) (hA : A = none → n = 0 ∧ c = 0) (hn : n ≤ 2097152) :
    Calls Try.prog 31 #[.slice A n c] w (RetO (sortSp l) w) := by
  have HC := Lib.hid (sp_clone A n c l w hg hA hn)
  have HL := Lib.hid hg.len
  have HN := Lib.hid hn
  clear hg hA hn
  go_enter Try.func31, Try.ntmps31
  go_wp2_with (first
    | (go_at_call 48; refine HC.out.mono ?_; rintro e w1 ⟨A', c', rfl, ho, hb⟩; have HO := Lib.hid ho; have HB := Lib.hid hb; clear ho hb)
    | (go_at_call 49; refine (sp_sortFunc A' n c' l w1 w.heap.size HO.out HL.out HB.out.size HN.out).mono ?_; rintro e w2 ⟨rfl, hs, hb2⟩; have HS := Lib.hid hs; have HB2 := Lib.hid hb2; clear hs hb2))
  go_ret
  refine ⟨A', n, c', rfl, HS.out, ?_, ?_, ?_, HB.out.trans HB2.out⟩
  · rcases HO.out.2 with ⟨q, e0⟩ | ⟨g, cap, cur, ev, hg, hh, h1, h2, _⟩
    · injection q with q1 q2 q3; omega
    · injection ev with q1 q2 q3; subst q3; assumption
  · rintro rfl
    rcases HO.out.2 with ⟨q, e0⟩ | ⟨g, cap, cur, ev, hg, hh, h1, h2, _⟩
    · injection q with q1 q2 q3; exact ⟨q2, q3⟩
    · injection ev with q1 q2 q3; cases q1
  · rintro b o rfl
    exact (HO.out.lt b rfl).1
end Go.Proofs.Ytpcbfoddlpgdjaa
