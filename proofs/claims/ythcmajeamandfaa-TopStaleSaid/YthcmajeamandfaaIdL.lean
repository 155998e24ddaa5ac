/- Refs by ids: List: all, by ids. -/
import Derived.Test.YthcmajeamandfaaIdB
import Derived.Test.YthcmajeamandfaaNmL
import Derived.Test.YthcmajeamandfaaRkI
import Derived.Lib.OwnBridge
import Derived.Sort.LotA
import Derived.Laws.AppendOwnNone
import Derived.Shelf.Small.Bits
import Derived.Maps.AppendAt
import Derived.Maps.RangeWalk
import Derived.Deep.OwnRows
import Derived.Great.BuildSlice
namespace Go.Proofs.Ythcmajeamandfaa
open Go.RowKit Go.Shelf Go.Maps Go.ChangeMaps Go.MapKept
instance nmInh : Inhabited Nm := ⟨⟨0, 0, 0⟩⟩
def nmL (x : Nm) : List Value := [.int .u64 x.id, .int .i64 x.slot, .int .i64 x.gen]
def nmC (x : Nm) : Array Value := #[.int .u64 x.id, .int .i64 x.slot, .int .i64 x.gen]
def nmV (x : Nm) : Value := .agg #[.int .u64 x.id, .int .i64 x.slot, .int .i64 x.gen]
theorem nmL_len (x : Nm) : (nmL x).length = 3 := rfl
theorem nmL_one (x : Nm) : ∀ v ∈ nmL x, v.oneCell' = true := by
  intro v hv
  simp only [nmL, List.mem_cons, List.not_mem_nil, or_false] at hv
  rcases hv with rfl | rfl | rfl <;> rfl
/-- A slice of named refs. -/
def NmAt (w : World) (B : Nat) (A : Option Addr) (n : Nat) (l : List Nm) : Prop := Rs w B A n 3 (l.map nmL)
theorem NmAt.len {w : World} {B : Nat} {A : Option Addr} {n : Nat} {l : List Nm} (h : NmAt w B A n l) : l.length = n := by have := Rs.len h; simpa using this
theorem NmAt.below {w w' : World} {B : Nat} {A : Option Addr} {n : Nat} {l : List Nm} (h : NmAt w B A n l) (hb : Below B w w') : NmAt w' B A n l := Rs.below h hb
theorem NmAt.more {w : World} {B B' : Nat} {A : Option Addr} {n : Nat} {l : List Nm} (h : NmAt w B A n l) (hB : B ≤ B') : NmAt w B' A n l := Rs.more h hB
def flatN (l : List Nm) : List Value := (l.map nmL).flatten
theorem flatN_len (l : List Nm) : (flatN l).length = l.length * 3 := by
  unfold flatN
  rw [flat_len (sz := 3) _ (fun c hc => by obtain ⟨x, _, rfl⟩ := List.mem_map.1 hc; rfl), List.length_map]
theorem flatN_snoc (l : List Nm) (x : Nm) : flatN (l ++ [x]) = flatN l ++ nmL x := by unfold flatN; simp
theorem info_named : (Try.prog.info? 40).map (fun i => (i.zero, i.size, i.bytes)) = some (some (.agg #[.int .u64 0, .int .i64 0, .int .i64 0]), 3, 24) := by kernel_rfl
theorem nmT : (Try.prog.info? 40).map (·.size) = some 3 := by kernel_rfl
theorem run_named (w : World) (x : Nm) : (Instr.buildSlice 36 1 #[(0, .agg #[.int .u64 x.id, .int .i64 x.slot, .int .i64 x.gen])]).run Try.prog w = .ok (.slice (some ⟨w.heap.size, 0, none⟩) 1 1) (w.alloc (.cells (nmC x) 40)) := by
  obtain ⟨i, hi, hz, hz1, hz2⟩ := info_parts info_named
  refine Go.run_buildSlice w _ _ 1 _ _ i (.agg #[.int .u64 0, .int .i64 0, .int .i64 0]) Try.underlying36 hi hz (by rw [hz1]; decide) (by rw [hz1]; decide) ?_
  rw [hz1]; kernel_rfl
open Go.Sort hiding Below
def cmpN (a b : Nm) : Int := cmpI a.id b.id
theorem cmpN_neg {x y : Int} : cmpI x y < 0 ↔ x < y := by unfold cmpI; split <;> (try split) <;> omega
theorem ltN (a b : Nm) : ltOf cmpN a b = decide (a.id < b.id) := decide_eq_decide.2 cmpN_neg
theorem nm_swo : SWO (ltOf cmpN) where
  irrefl x := by rw [ltN]; exact decide_eq_false (by omega)
  trans x y z h1 h2 := by rw [ltN] at *; have := of_decide_eq_true h1; have := of_decide_eq_true h2; exact decide_eq_true (by omega)
  ntrans x y z h1 h2 := by rw [ltN] at *; have := of_decide_eq_false h1; have := of_decide_eq_false h2; exact decide_eq_false (by omega)
/-- Named refs by ids. -/
def sortN (l : List Nm) : List Nm := l.mergeSort fun x y => decide (x.id ≤ y.id)
theorem sortN_perm (l : List Nm) : (sortN l).Perm l := List.mergeSort_perm l _
theorem sortN_pair (l : List Nm) : (sortN l).Pairwise fun a b => a.id ≤ b.id := by
  have := List.pairwise_mergeSort (le := fun x y : Nm => decide (x.id ≤ y.id)) (fun a b c h1 h2 => by
    simp only [decide_eq_true_eq] at *
    omega) (fun a b => by
    simp only [Bool.or_eq_true, decide_eq_true_eq]
    omega) l
  exact this.imp fun h => of_decide_eq_true h
theorem nodup_id {l : List Nm} (h : l.Pairwise fun x y => x.id ≠ y.id) {a b : Nm} (ha : a ∈ l) (hb : b ∈ l) (e : a.id = b.id) : a = b := by
  have h1 := find_id h ha
  have h2 := find_id h hb
  rw [e] at h1
  exact Option.some.inj (h1.symm.trans h2)
theorem sortN_eq {l1 l2 : List Nm} (hp : l1.Perm l2) (hnd : l2.Pairwise fun x y => x.id ≠ y.id) (hs : l1.Pairwise fun a b => a.id ≤ b.id) : l1 = sortN l2 :=
  List.Perm.eq_of_pairwise (le := fun a b : Nm => a.id ≤ b.id) (fun a b ha hb h1 h2 => nodup_id hnd (hp.mem_iff.1 ha) ((sortN_perm l2).mem_iff.1 hb) (by omega)) hs (sortN_pair l2) (hp.trans (sortN_perm l2).symm)
theorem sortN_len (l : List Nm) : (sortN l).length = l.length := (sortN_perm l).length_eq
theorem id_boxes (w : World) (a b : Nm) : ∃ w2, (w.alloc (.cells (nmC a) 40)).alloc (.cells (nmC b) 40) = w2 ∧ w2.cell? ⟨w.heap.size, 0, none⟩ = some (.int .u64 a.id) ∧ w2.cell? ⟨w.heap.size + 1, 0, none⟩ = some (.int .u64 b.id) ∧ Gw w w2 := by
  refine ⟨_, rfl, ?_, ?_, Gw.alloc (Gw.alloc (Gw.refl w) _) _⟩
  · have k1 := Blk.new w 40 (nmC a)
    exact ((bel_boxN _ _).cell (p := ⟨w.heap.size, 0, none⟩) k1.lt).trans (k1.cell 0)
  · have k2 := Blk.new (w.alloc (.cells (nmC a) 40)) 40 (nmC b)
    have e1 : (w.alloc (.cells (nmC a) 40)).heap.size = w.heap.size + 1 := by simp only [World.alloc, Array.size_push]
    rw [e1] at k2
    exact k2.cell 0
set_option maxRecDepth 100000 in
theorem nm_cmp (a b : Nm) (w : World) : Calls Try.prog 22 #[nmV a, nmV b] w fun e w' => e = .returned (.int .i64 (cmpI a.id b.id)) ∧ Gw w w' := by
  obtain ⟨w2, hw2, cA, cB, hg⟩ := id_boxes w a b
  have HG := Lib.hid hg
  unfold nmC at hw2
  unfold nmV
  clear hg
  go_enter Try.func22, Try.ntmps22
  go_upto_region 1 with fail
  (try rw [hw2])
  clear hw2
  go_wp2_with (go_at_call 23; (with_reducible refine (cmp_u64 _ _ _).mono ?_); rintro e w3 ⟨rfl, rfl⟩)
  go_ret
  exact ⟨rfl, HG.out⟩
theorem nm_lays (blk off size : Nat) (w : World) : CmpLays Try.prog 22 #[] nmL 3 cmpN blk off size w := fun _ _ _ _ x y => nm_cmp x y _
theorem below_mapBlockN {B : Nat} {a w : World} (h : Below B a w) {g : Nat} (hg : B ≤ g) (f : Array Value → Array Value) : Below B a (mapBlock w g f) :=
  ⟨h.os, h.tape, h.output, Nat.le_trans h.size (by simp [mapBlock]), fun k hk => (show (w.heap.modify g _)[k]? = w.heap[k]? by rw [Array.getElem?_modify, if_neg (by omega)]).trans (h.block k hk)⟩
theorem below_sortWorldN {B : Nat} {a w : World} (h : Below B a w) {g : Nat} (hg : B ≤ g) (hB : B ≤ w.heap.size) (o n : Nat) (d : Array Nm) (os : Array Obj) : Below B a (sortWorldK nmL 3 w g o n d os) := by
  unfold sortWorldK putRowK putRow
  have h1 : Below B a (Go.Sort.ahead w n) := ⟨h.os, h.tape, h.output, h.size, h.block⟩
  have h2 := below_mapBlockN h1 hg (putCells id o (flatK nmL 3 d))
  exact ⟨h2.os, h2.tape, h2.output, Nat.le_trans h2.size (by simp [grow]), fun k hk => (show (_ ++ os)[k]? = _ from Array.getElem?_append_left (by simp [mapBlock, Go.Sort.ahead]; omega)).trans (h2.block k hk)⟩
theorem holds_ownN {w : World} {g : Nat} {l : List Nm} (h : ∀ j u, (flatN l)[j]? = some u → w.cell? ⟨g, j, none⟩ = some u) (hf : ∀ j, w.frozen? ⟨g, j, none⟩ = false) : HoldsK nmL 3 w g 0 l.toArray := by
  intro j hj
  rw [size_flatK] at hj
  refine ⟨?_, hf _⟩
  have hj3 : j / 3 < l.length := Nat.div_lt_of_lt_mul (by simpa [Nat.mul_comm] using hj)
  rw [Nat.zero_add]
  show _ = some ((flatK nmL 3 l.toArray)[j]!)
  rw [get_flatK _ _ _ _ hj]
  refine h j _ ?_
  have e := flat_get (sz := 3) (l.map nmL) (fun c hc => by obtain ⟨x, _, rfl⟩ := List.mem_map.1 hc; rfl) (j / 3) (j % 3) (nmL l[j / 3]) (by simp [hj3]) (Nat.mod_lt _ (by decide))
  rw [Nat.div_add_mod' j 3] at e
  show (flatN l)[j]? = _
  unfold flatN
  rw [e]
  have e2 : l.toArray[j / 3]! = l[j / 3] := by simp [hj3]
  rw [e2]
  have h3 : j % 3 < (nmL l[j / 3]).length := Nat.mod_lt _ (by decide)
  exact (List.getElem?_eq_getElem h3).trans (congrArg some (getElem!_pos (nmL l[j / 3]) (j % 3) h3).symm)
theorem holds_nmAt {w : World} {g : Nat} {l : List Nm} (h : HoldsK nmL 3 w g 0 l.toArray) {B : Nat} (hB : g < B) : NmAt w B (some ⟨g, 0, none⟩) l.length l := by
  refine ⟨by simp, fun c hc => by obtain ⟨x, _, rfl⟩ := List.mem_map.1 hc; rfl, fun _ => ⟨g, 0, rfl, hB, fun i c hi j u hu => ?_⟩⟩
  rw [List.getElem?_map] at hi
  obtain ⟨x, hx, rfl⟩ := Option.map_eq_some_iff.1 hi
  have hil : i < l.length := (List.getElem?_eq_some_iff.1 hx).1
  have hj : j < 3 := (List.getElem?_eq_some_iff.1 hu).1
  rw [(h.cell (i := i) (c := j) (by simpa using hil) hj).1]
  have e2 : l.toArray[i]! = x := by
    have := (List.getElem?_eq_some_iff.1 hx).2
    simp [hil, this]
  rw [e2]
  have h3 : j < (nmL x).length := hj
  exact (congrArg some (getElem!_pos (nmL x) j h3)).trans ((List.getElem?_eq_getElem h3).symm.trans hu)
theorem aggNm : ∀ w, (isAgg 40).run Try.prog w = .ok true w := Try.isAgg40
theorem sizeNm : ∀ w, (Go.sizeOf 40).run Try.prog w = .ok 3 w := Try.sizeOf40
set_option maxRecDepth 100000 in
theorem ins_noneN (A : Option Addr) (c : Nat) (fv : Value) (w : World) : Calls Try.prog 32 #[.slice A 0 c, .int .i64 0, .int .i64 0, fv] w fun e w' => e = .returned (.tuple #[]) ∧ w = w' := by
  go_enter Try.func32, Try.ntmps32
  go_wp2
  refine wp_loop_rounds 1 ?_
  rw [rounds_succ]
  go_wp2
  go_end0
  exact ⟨rfl, rfl⟩
set_option maxRecDepth 100000 in
theorem pdq_noneN (A : Option Addr) (c : Nat) (fv : Value) (w : World) : Calls Try.prog 28 #[.slice A 0 c, .int .i64 0, .int .i64 0, .int .i64 0, fv] w fun e w' => e = .returned (.tuple #[]) ∧ w = w' := by
  go_enter Try.func28, Try.ntmps28
  go_wp2
  refine wp_loop_rounds 1 ?_
  rw [rounds_succ]
  go_wp2_with (go_at_call 32; refine (ins_noneN _ _ _ _).mono ?_; rintro e w' ⟨rfl, rfl⟩)
  (try simp only [Exit.inBlock, Exit.then])
  refine bodyPost_ret (results_none rfl _ _ _) rfl ?_
  exact ⟨rfl, rfl⟩
set_option maxRecDepth 100000 in
theorem sort_noneN (A : Option Addr) (c : Nat) (fv : Value) (w : World) : Calls Try.prog 21 #[.slice A 0 c, fv] w fun e w' => e = .returned (.tuple #[]) ∧ w = w' := by
  have HL : ∀ w, Calls Try.prog 29 #[.int .u64 0] w fun e w' => e = .returned (.int .i64 0) ∧ w' = w := fun w => Any.bits_Len (SlLaysF0.n15.bits (P := Try.prog) (ρ := sortNamed_ren) { sortNamed with }) 0 w (by decide) (by decide)
  go_enter Try.func21, Try.ntmps21
  go_wp2_with (first | (go_at_call 29; refine (HL _).mono ?_; rintro e w' ⟨rfl, rfl⟩) | (go_at_call 28; refine (pdq_noneN _ _ _ _).mono ?_; rintro e w' ⟨rfl, rfl⟩))
  go_end0
  exact ⟨rfl, rfl⟩
/-- A row of the call's own, sorted. -/
theorem nm_sortFunc (A : Option Addr) (n c : Nat) (l : List Nm) (w : World) (B : Nat) (ho : w.ownsRow B 40 3 (.slice A n c) n (flatN l)) (hl : l.length = n) (hB : B ≤ w.heap.size) (hn : n ≤ 2097152) (hnd : l.Pairwise fun x y => x.id ≠ y.id) :
    Calls Try.prog 21 #[.slice A n c, .func (.func 22) #[] #[]] w fun e w' => e = .returned (.tuple #[]) ∧ NmAt w' w'.heap.size A n (sortN l) ∧ Below B w w' := by
  rcases Nat.eq_zero_or_pos n with h0 | h0
  · subst h0
    have hl0 : l = [] := List.eq_nil_of_length_eq_zero hl
    subst hl0
    refine (sort_noneN A c _ w).mono ?_
    rintro e w' ⟨rfl, rfl⟩
    exact ⟨rfl, ⟨by simp [sortN], by simp [sortN], fun h => absurd h (by decide)⟩, Below.refl _ _⟩
  · rcases ho.2 with ⟨_, e0⟩ | ⟨g, cap, cur, ev, hg, hh, _, _, _, ht⟩
    · omega
    · injection ev with eA e1 e2
      subst eA
      have hb : Blk w g 40 cur := hh
      have hH : HoldsK nmL 3 w g 0 l.toArray := holds_ownN (fun j u hu => by
        rw [hb.cell, ← Array.getElem?_toList]
        have hjl : j < (flatN l).length := (List.getElem?_eq_some_iff.1 hu).1
        rw [← ht, List.getElem?_take] at hu
        split at hu
        · exact hu
        · cases hu) (fun j => hb.frozen j)
      have e3 : l.toArray.size = n := by simpa using hl
      have H := AnyQ.slices_SortFunc sortNamed 3 aggNm sizeNm nmL nmL_len nmL_one cmpN nm_swo 22 #[] g 0 c l.toArray w (enters_of Try.func22 (by kernel_rfl) rfl) (nm_lays g 0 _ w) hH hb.lt (by rw [e3]; omega)
      rw [e3] at H
      refine H.mono ?_
      rintro e w' ⟨rfl, d', q, os, hp, hso, rfl⟩
      rw [← e3] at hp hso
      obtain rfl : d' = (sortN l).toArray := by
        have q : d'.toList = sortN l := by
          obtain ⟨hsz, _, hperm⟩ := hp
          have e1 : d'.extract 0 l.toArray.size = d' := by rw [← hsz]; exact Array.extract_size
          rw [e1, Array.extract_size] at hperm
          refine sortN_eq hperm hnd ?_
          rw [List.pairwise_iff_getElem]
          intro i j hi hj hij
          have hi' : i < d'.size := by simpa using hi
          have hj' : j < d'.size := by simpa using hj
          have := hso i j (Nat.zero_le _) hij (by rw [← hsz]; exact hj')
          rw [getElem!_pos d' j hj', getElem!_pos d' i hi', ltN] at this
          have := of_decide_eq_false this
          simp only [Array.getElem_toList]
          omega
        rw [← q]
      refine ⟨rfl, ?_, below_sortWorldN (Below.refl _ _) hg hB 0 q _ os⟩
      have hs : (sortN l).toArray.size = l.toArray.size := by simp [sortN_len]
      have h2 := holdsK_sortWorldK nmL 3 w g 0 q l.toArray (sortN l).toArray os hb.lt hH hs
      have h3 := holds_nmAt h2 (lt_sortWorldK nmL 3 w g 0 q (sortN l).toArray os hb.lt)
      rw [sortN_len, hl] at h3
      exact h3
theorem size_setCellsN (g : Nat) : ∀ (vs : List Value) (o : Nat) (w : World), (w.setCells g o vs).heap.size = w.heap.size
  | [], _, _ => rfl
  | v :: r, o, w => (size_setCellsN g r (o + 1) (w.setCell ⟨g, o, none⟩ v)).trans (by simp [World.setCell])
theorem put_sizeN (W : World) (o : Obj) (vs : List Value) : ((W.alloc o).setCells W.heap.size 0 vs).heap.size = W.heap.size + 1 := by
  rw [size_setCellsN]; simp only [World.alloc, Array.size_push]
theorem keyN_inv : ∀ key kl, keyOf Try.prog 28 key = some kl → ∃ x : Int, key = Value.int .u64 x := fun key kl h => by
  obtain ⟨x, hx, _⟩ := Maps.keyOf_int_inv Try.underlying28 h
  exact ⟨x, hx⟩
theorem refN_inv : ∀ (v : Value) (y : DataW Unit × List MemPlace), refElem v = some y → ∃ c : Nm, v = refV c := fun v y h => by
  obtain ⟨x, _, hx, _⟩ := refElem_inv h
  exact ⟨x, hx⟩
/-- What has come out of a map, behind what was there. -/
def OutI (L l0 l : List Nm) (left : Lit → Bool) (D : DataW Unit) : Prop := l.Perm (l0 ++ L.filter fun y => !left (.int .u64 y.id)) ∧ ∀ kl, left kl = true → Maps.has D kl = true
theorem OutI.start {L l0 : List Nm} {D : DataW Unit} (h : RefM D L) : OutI L l0 l0 (Maps.has D) D := by
  refine ⟨?_, fun _ h => h⟩
  have : (L.filter fun y => !Maps.has D (.int .u64 y.id)) = [] := List.filter_eq_nil_iff.2 fun y hy => by
    rw [h.has_, any_id.2 ⟨y, hy, rfl⟩]
    simp
  rw [this, List.append_nil]
theorem OutI.step {L l0 l : List Nm} {left : Lit → Bool} {D : DataW Unit} (h : OutI L l0 l left D) (hM : RefM D L) {x : Int} {c : Nm} {y : DataW Unit × List MemPlace} (hl : left (.int .u64 x) = true) (hv : refElem (refV c) = some y) (hat : ∀ zd, D.atKey (.int .u64 x) zd = y.1) :
    OutI L l0 (l ++ [⟨x, c.slot, c.gen⟩]) (fun z => left z && !z.sameKey (.int .u64 x)) D := by
  have h1 := h.2 _ hl
  rw [hM.has_] at h1
  obtain ⟨z, hz, rfl⟩ := any_id.1 h1
  have h2 := hat (refD ⟨0, 0, 0⟩)
  rw [hM.at_ z hz] at h2
  rw [refElem_mk c] at hv
  obtain rfl := Option.some.inj hv
  obtain ⟨e1, e2⟩ := refD_inj h2
  have ez : (⟨z.id, c.slot, c.gen⟩ : Nm) = z := by rw [← e1, ← e2]
  rw [ez]
  refine ⟨?_, fun kl hkl => h.2 kl (by simp only [Bool.and_eq_true] at hkl; exact hkl.1)⟩
  have hs := left_step hM.nd (lf := fun i => left (.int .u64 i)) hz hl
  have e3 : (L.filter fun y => !(left (.int .u64 y.id) && !(y.id == z.id))) = L.filter fun y => !(left (.int .u64 y.id) && !(Lit.int .u64 y.id).sameKey (.int .u64 z.id)) := by
    refine List.filter_congr fun y _ => ?_
    have : (Lit.int .u64 y.id).sameKey (.int .u64 z.id) = (y.id == z.id) := by
      by_cases e : y.id = z.id
      · rw [e]; simp [Lit.sameKey]
      · rw [show (y.id == z.id) = false by simpa using e]
        exact sameKey_ne (keyU e)
    rw [this]
  rw [e3] at hs
  refine (List.Perm.append_right [z] h.1).trans ?_
  rw [List.append_assoc]
  exact List.Perm.append_left l0 hs
theorem OutI.done {L l0 l : List Nm} {left : Lit → Bool} {D : DataW Unit} (h : OutI L l0 l left D) (hl : ∀ kl, left kl = false) : l.Perm (l0 ++ L) := by
  have := h.1
  rw [List.filter_eq_self.2 (fun y _ => by rw [hl]; rfl)] at this
  exact this
/-- What List tells. -/
def RetNm (l : List Nm) (w : World) (e : Ending) (w' : World) : Prop := ∃ A n c, e = .returned (.slice A n c) ∧ NmAt w' w'.heap.size A n l ∧ (A = none → n = 0) ∧ (∀ b o, A = some ⟨b, o, none⟩ → w.heap.size ≤ b) ∧ Below w.heap.size w w'
set_option maxRecDepth 100000 in
set_option maxHeartbeats 4000000 in
theorem id_list {w : World} {mp sb k N : Nat} {bs : List Nat} {E : List Nm} {ver : Int} (S : IdS w mp sb k N bs E ver) (hE : E.length ≤ 1048576) :
    Calls Try.prog 9 #[.pointer (some ⟨mp, 0, none⟩)] w (RetNm (sortN E) w) := by
  have c0 : w.cell? ⟨mp, 0, none⟩ = some (.slice (some ⟨sb, 0, none⟩) k k) := S.m.cell 0
  have HS := Lib.hid S
  have hk64 := S.k0.2
  have HUP : Hid (∀ j, (upL (shI k) E j).length ≤ 1048576) := fun j => Nat.le_trans (List.length_filter_le _ _) hE
  clear S hE
  go_enter Try.func9, Try.ntmps9
  go_wp2_with fail
  go_loopw [3, 5, 6, 7, 15] (fun s3 _ _ _ s15 wr => ∃ (j m : Nat) (A : Option Addr) (c : Nat) (l : List Nm), j ≤ k ∧ s15 = .int .i64 j ∧ s3 = .slice A m c ∧ Hid (wr.ownsRow w.heap.size 40 3 (.slice A m c) m (flatN l)) ∧ Hid (l.length = m ∧ l.Perm (upL (shI k) E j)) ∧ Hid (Below w.heap.size w wr)) (fun _ _ _ _ s15 _ => k - (intOf s15).toNat)
  case atStart => exact ⟨0, 0, none, 0, [], Nat.zero_le _, rfl, rfl, World.ownsRow_nil _ _ _ _, (show [].length = 0 ∧ [].Perm (upL (shI k) E 0) by rw [upL_zero]; exact ⟨rfl, .refl _⟩), Lib.hid (Below.refl _ _)⟩
  case round =>
    clear c0
    obtain ⟨j, m, A, c, l0, hj, rfl, rfl, HO, HL, HB⟩ := hrel
    by_cases hlt : j < k
    · have S1 := HS.out.below HB.out
      obtain ⟨b, hb, hcb, D, h1, h2⟩ := S1.at_ hlt
      have HOW := Lib.hid h1
      have HRM := Lib.hid h2
      have HLT := Lib.hid hlt
      have hcb' : wr.cell? ⟨sb, j, none⟩ = some (.map (some b)) := hcb
      have HBO := Lib.hid HB.out.size
      have HMB : Hid (b < wr.heap.size) := World.ownsMap.lt h1
      have HMW : Hid (b < w.heap.size) := (HS.out.r j b hb).lt
      obtain ⟨wo, rfl⟩ : ∃ wo : World, wo = wr := ⟨_, rfl⟩
      clear hb h1 h2 hcb S1
      go_upto_region 8 with (at_range; refine wpList_range_own _ rfl _ 55 rfl 28 32 lawUN Try.underlying55 refElem b N D rfl HOW.out ?_; intro w0 hrg0 hg0 hs0; have HR0 := Lib.hid hrg0; have HG0 := Lib.hid hg0; have HZ0 := Lib.hid hs0; clear hrg0 hg0 hs0)
      go_frame
      go_loopw [3, 6, 7] (fun s3 _ _ wr => ∃ (left : Lit → Bool) (cnt m : Nat) (A : Option Addr) (c : Nat) (l : List Nm), s3 = .slice A m c ∧ Hid (wr.ranges Try.prog 28 refElem b wo.heap.size N D left cnt) ∧ Hid (OutI (shL (shI k) E j) l0 l left D ∧ l.length = m ∧ m + cnt ≤ 1048576) ∧ Hid (wr.ownsRow w.heap.size 40 3 (.slice A m c) m (flatN l)) ∧ Hid (A ≠ some ⟨wo.heap.size, 0, none⟩) ∧ Hid (Below w.heap.size w wr) ∧ Hid (wo.heap.size ≤ wr.heap.size)) (fun _ _ _ wr => wr.rangeLeft b wo.heap.size)
      case atStart =>
        refine ⟨_, _, m, A, c, l0, rfl, HR0.out, ⟨OutI.start HRM.out, HL.out.1, ?_⟩, ownsRow_tch HO.out (grownBy_tch HG0.out) (fun k _ q => by cases q), ?_, HB.out.grown HG0.out HB.out.size (fun k hk => by cases hk), by rw [HZ0.out]; exact Nat.le_succ _⟩
        · have h1 := upL_len (shI k) E j
          have h2 := HUP.out (j + 1)
          have h3 := HL.out.1
          have h4 := HL.out.2.length_eq
          have h5 := HRM.out.size_
          omega
        · intro e
          subst e
          exact Nat.lt_irrefl _ (HO.out.lt _ rfl).2
      case round =>
        clear HO HB HR0 HG0 HZ0 HOW hcb'
        obtain ⟨left, cnt, m, A, c, l, rfl, HR, HI, HO, HA, HB, HZ⟩ := hrel
        have HOB : Hid (∀ g, (Value.slice A m c).ownBlock = some g → w.heap.size ≤ g ∧ g ≠ wo.heap.size) := fun g hg => by
          refine ⟨(HO.out.lt g hg).1, fun e => ?_⟩
          rcases HO.out.2 with ⟨q, _⟩ | ⟨g', cap, cur, ev, _⟩
          · rw [q] at hg; cases hg
          · rw [ev] at hg
            injection ev with q1 _ _
            have hg' : some g' = some g := hg
            injection hg' with hg'
            exact HA.out (by rw [q1, hg', e])
        go_wp2_with (at_next; refine wpList_next_ranges _ rfl _ rfl 28 lawUN refElem (Value.int .u64) refV keyN_inv refN_inv b wo.heap.size N D left cnt rfl HR.out ?_ ?_)
        · intro hc0 hl0
          have HPM : Hid (l.length = m ∧ l.Perm (upL (shI k) E (j + 1))) := ⟨HI.out.2.1, (HI.out.1.done hl0).trans ((List.Perm.append_right _ HL.out.2).trans (upL_succ _ _ _))⟩
          clear hl0 hc0
          go_wp2_with fail
          go_roundw
          case rel => exact ⟨j + 1, m, A, c, l, by have := HLT.out; omega, by go_num, rfl, HO, HPM, HB⟩
          case measure => have := HLT.out; simp [intOf]; omega
        · intro x y kl yd yp w2 cnt2 hkey hlk hv hat hrg hlt2 hg hs2 hen
          obtain ⟨x', ex, rfl, _⟩ := Maps.keyOf_int_inv Try.underlying28 hkey
          obtain rfl : x = x' := by injection ex
          have HS2 : Hid (OutI (shL (shI k) E j) l0 (l ++ [⟨x, y.slot, y.gen⟩]) (fun z => left z && !z.sameKey (.int .u64 x)) D) := HI.out.1.step HRM.out hlk hv hat
          have HR2 := Lib.hid hrg
          have HC2 := Lib.hid hlt2
          have HZ2 : Hid (w2.heap.size = wr.heap.size) := hs2
          have SG := ref_put w2 y
          have bG := put_belN w2 (.cells #[.int .i64 0, .int .i64 0] 32) (refC y).toList
          have LX := ref_load (ref_blk w2 y)
          have hz3 := put_sizeN w2 (.cells #[.int .i64 0, .int .i64 0] 32) (refC y).toList
          obtain ⟨w3, hw3⟩ : ∃ q, (w2.alloc (.cells #[.int .i64 0, .int .i64 0] 32)).setCells w2.heap.size 0 (refC y).toList = q := ⟨_, rfl⟩
          rw [hw3] at SG bG LX hz3
          have HB3 : Hid (Below w.heap.size w w3) := (HB.out.grown hg HB.out.size (fun k hk => by injection hk with hk; have := HBO.out; omega)).trans (bG.mono (by rw [hs2]; exact HB.out.size))
          have HO3 : Hid (w3.ownsRow w.heap.size 40 3 (.slice A m c) m (flatN l)) := ownsRow_tch (ownsRow_tch HO.out (grownBy_tch hg) (fun k hk q => (HOB.out k hk).2 (by injection q))) (Tch.of_below (S := fun _ => False) bG) (fun _ _ q => q)
          have HR3 := Lib.hid (hrg.kept (w' := w3) (row := none) ⟨bG.os, bG.tape, bG.output, bG.size, fun i hi _ => bG.block i hi⟩ (by simp) (by simp))
          have HZ3 := Lib.hid hz3
          have hbs : ∀ w, (Instr.buildSlice 36 1 #[(0, .agg #[.int .u64 x, .int .i64 y.slot, .int .i64 y.gen])]).run Try.prog w = .ok (.slice (some ⟨w.heap.size, 0, none⟩) 1 1) (w.alloc (.cells #[.int .u64 x, .int .i64 y.slot, .int .i64 y.gen] 40)) := fun w => run_named w ⟨x, y.slot, y.gen⟩
          have hmb : m ≤ 1048576 := by have := HI.out.2.2; omega
          have hw23 : w2.heap.size ≤ w3.heap.size := bG.size
          unfold refV at SG LX hen
          clear hkey hlk hv hat hrg hlt2 hg hs2 bG hw3 hz3 hw23
          go_wp2_with (first
            | refine wpList_storeE SG _ _ rfl rfl rfl rfl ?_
            | refine wpList_loadE LX _ rfl rfl rfl ?_
            | (at_builtin; refine wpList_push1 rfl (.tmp 26) (.tmp 30) 36 40 3 24 _ rfl Try.underlying36 info_named rfl (by decide) w3 w.heap.size _ m _ #[.int .u64 x, .int .i64 y.slot, .int .i64 y.gen] rfl HO3.out rfl rfl (fun u hu => by rcases (by simpa using hu : u = _ ∨ u = _ ∨ u = _) with rfl | rfl | rfl <;> rfl) (by omega) (by decide) HB3.out.size ?_; intro g2 c4 W4 ho hgr hb hat; replace ho := Lib.hid ho; replace hgr := Lib.hid hgr; replace hb := Lib.hid hb; replace hat := Lib.hid hat))
          have HRF : Hid (W4.ranges Try.prog 28 refElem b wo.heap.size N D (fun z => left z && !z.sameKey (.int .u64 x)) cnt2) := HR3.out.kept hgr.out (fun e => by have h1 := (HOB.out b e.symm).1; have h2 := HMW.out; omega) (fun e => (HOB.out _ e.symm).2 rfl)
          have HOF : Hid (W4.ownsRow w.heap.size 40 3 (.slice (some ⟨g2, 0, none⟩) (m + 1) c4) (m + 1) (flatN (l ++ [⟨x, y.slot, y.gen⟩]))) := by
            show World.ownsRow _ _ _ _ _ _ _
            rw [flatN_snoc]
            exact ho.out
          have HAF : Hid ((some ⟨g2, 0, none⟩ : Option Addr) ≠ some ⟨wo.heap.size, 0, none⟩) := fun e => by
            injection e with e
            injection e with e _ _
            rcases hat.out with q | q
            · exact (HOB.out g2 q).2 e
            · have h1 := HZ.out
              have h2 := HZ2.out
              have h3 := HZ3.out
              omega
          have HBF : Hid (Below w.heap.size w W4) := HB3.out.trans hb.out
          have HZF : Hid (wo.heap.size ≤ W4.heap.size) := by
            have h1 := HZ.out
            have h2 := HZ2.out
            have h3 := HZ3.out
            have h4 := hb.out.size
            show _ ≤ _
            omega
          have HIF : Hid (OutI (shL (shI k) E j) l0 (l ++ [⟨x, y.slot, y.gen⟩]) (fun z => left z && !z.sameKey (.int .u64 x)) D ∧ (l ++ [(⟨x, y.slot, y.gen⟩ : Nm)]).length = m + 1 ∧ m + 1 + cnt2 ≤ 1048576) := ⟨HS2.out, by rw [List.length_append, HI.out.2.1]; rfl, by have h1 := HI.out.2.2; have h2 := HC2.out; omega⟩
          go_wp2_with fail
          go_roundw
          case rel => exact ⟨_, cnt2, m + 1, some ⟨g2, 0, none⟩, c4, l ++ [⟨x, y.slot, y.gen⟩], rfl, HRF, HIF, HOF, HAF, HBF, HZF⟩
          case measure => rw [HRF.out.left_eq, HR.out.left_eq]; exact HC2.out
    · obtain rfl : j = k := by omega
      have hup : upL (shI j) E j = E := upL_all (fun i => shI_lt HS.out.k0.1 i) E
      have hpm := HL.out.2
      rw [hup] at hpm
      have hml : m ≤ 1048576 := by
        have h1 := HUP.out j
        rw [hup] at h1
        have h2 := HL.out.1
        have h3 := hpm.length_eq
        omega
      have hnd : l0.Pairwise fun x y => x.id ≠ y.id := (hpm.pairwise_iff (fun {_ _} h => Ne.symm h)).2 HS.out.e
      have es : sortN l0 = sortN E := sortN_eq ((sortN_perm l0).trans hpm) HS.out.e (sortN_pair l0)
      have hsf := nm_sortFunc A m c l0 wr w.heap.size HO.out HL.out.1 HB.out.size (by omega) hnd
      rw [es] at hsf
      have HSF := Lib.hid hsf
      clear hsf es hnd hpm hup hml
      go_wp2_with (go_at_call 21; (with_reducible refine HSF.out.mono ?_); rintro e w2 ⟨rfl, hs, hb⟩; have HS2 := Lib.hid hs; have HB2 := Lib.hid hb; clear hs hb)
      go_ret
      refine ⟨A, m, c, rfl, HS2.out, fun e => ?_, fun b o e => ?_, HB.out.trans HB2.out⟩
      · subst e
        rcases HO.out.2 with ⟨_, e0⟩ | ⟨g', cap, cur, ev, _⟩
        · exact e0
        · injection ev with q1 _ _; cases q1
      · subst e
        exact (HO.out.lt b rfl).1
end Go.Proofs.Ythcmajeamandfaa
