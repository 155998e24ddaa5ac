/- Reach: the document's side, Groups, Whole; planes by what they are; lives. -/
import Derived.Test.YtckclflbcgblaaaReMa
import Derived.Test.YtckclflbcgblaaaPlQ
import Derived.Test.YtckclflbcgblaaaPmF
import Derived.Test.YtckclflbcgblaaaSame
import Derived.Test.YtckclflbcgblaaaPmK
import Derived.Great.BuildSlice
import Derived.Test.YtckclflbcgblaaaPmT
namespace Go.Proofs.Ytckclflbcgblaaa
open Go.RowKit Go.Maps Go.ChangeMaps Go.MapKept
theorem unI_with (ns : List ND) (l : List Int) {y : Int} (hy : thB ns y = true) : (withI l y).length + unI ns (withI l y) ≤ l.length + unI ns l := by
  cases h : hasI l y with
  | true => unfold withI; rw [if_pos h]; exact Nat.le_refl _
  | false =>
    have h1 : withI l y = l ++ [y] := by unfold withI; rw [if_neg (by rw [h]; decide)]
    have h2 : unI ns (withI l y) + [y].length ≤ unI ns l := unI_more (fun z hz => mem_withI.2 (.inl hz)) (by simp) fun z hz => by
      rw [List.mem_singleton] at hz; subst hz
      exact ⟨hy, mem_withI.2 (.inr rfl), fun q => by rw [hasI_iff.2 q] at h; cases h⟩
    have h3 : (withI l y).length = l.length + 1 := by rw [h1]; simp
    simp at h2; omega
theorem unI_foldWith (ns : List ND) : ∀ (L l : List Int), (∀ y ∈ L, thB ns y = true) → (L.foldl withI l).length + unI ns (L.foldl withI l) ≤ l.length + unI ns l
  | [], l, _ => Nat.le_refl _
  | y :: L, l, h => by
    rw [List.foldl_cons]
    exact Nat.le_trans (unI_foldWith ns L _ fun z hz => h z (List.mem_cons_of_mem _ hz)) (unI_with ns l (h y List.mem_cons_self))
theorem bI_len (ns : List ND) (level : Int) (xs : List Int) : ∀ k, (bI ns level xs k).length + unI ns (bI ns level xs k) ≤ xs.length + ns.length
  | 0 => Nat.add_le_add_left (unI_le ns xs) _
  | k + 1 => by
    refine Nat.le_trans ?_ (bI_len ns level xs k)
    show (stepI ns level (bI ns level xs k)).length + unI ns (stepI ns level (bI ns level xs k)) ≤ _
    rw [stepI_eq]
    refine unI_foldWith ns _ _ fun y hy => ?_
    obtain ⟨x, _, q⟩ := mem_nextI.1 hy
    exact near_there q
theorem near_wf {w : World} {B n c : Nat} {A : Option Addr} {ns : List ND} (hg : PgAt w B A n c ns) {x level y : Int} (hy : y ∈ nearI ns x level) : (Lit.int .i64 y).wf = true := wf_there hg (near_there hy)
theorem with_lenR (l : List Int) (v : Int) : (withI l v).length ≤ l.length + 1 := by unfold withI; split <;> simp

theorem rd_ig {w : World} {B n : Nat} {A : Option Addr} {xs : List Int} (h : Rd w B A n (xs.map (.int .i64))) {j : Nat} (hj : j < n) : ∃ b o, A = some ⟨b, o, none⟩ ∧ b < B ∧ w.cell? ⟨b, o + j, none⟩ = some (.int .i64 (ig xs j)) := by
  obtain ⟨b, o, e, hb, hc⟩ := h.2 (by omega)
  have hl := h.lenI
  have hxj : j < xs.length := by omega
  exact ⟨b, o, e, hb, hc j _ (by rw [List.getElem?_map, List.getElem?_eq_getElem hxj, ig, List.getD_eq_getElem?_getD, List.getElem?_eq_getElem hxj]; rfl)⟩
def RetD (xs : List Int) (w : World) (e : Ending) (w' : World) : Prop := ∃ A n c, e = .returned (.slice A n c) ∧ Rd w' w'.heap.size A n (xs.map (.int .i64)) ∧ (A = none → n = 0 ∧ c = 0) ∧ Below w.heap.size w w'
/-- Append of one cell: what it leaves be, block by block. -/
theorem wpList_pushGV {P : Program} {ops : Array Oper} {rest : List Oper} {o : Oper} {a : Act} {Q : Exit → Act → World → Prop} (hgd : o.guard = none) (s x : Operand) (t : TypeId)
    (ho : o.op = .call { callee := .builtin .append, args := #[s, x], argTypes := #[t, t] })
    (base : Nat) (e : TypeId) (z : Value) (bytes : Nat) (hb8 : bytes ≤ 24) (hz0 : z.cells.size = 1) (ht : P.underlying t = some (.slice e)) (hinfo : (P.info? e).map (fun i => (i.zero, i.size, i.bytes)) = some (some z, 1, bytes))
    (wr : World) (A : Option Addr) (n c : Nat) (xs : List Value) (u : Value) (hu : u.oneCell' = true) (hs : a.eval s = .slice A n c) (hown : wr.ownsRow base e 1 (.slice A n c) n xs)
    (hx : a.eval x = .slice (some ⟨wr.heap.size, 0, none⟩) 1 1) (hn : n ≤ 1048576) (hbase : base ≤ wr.heap.size)
    (h : ∀ g c' w', w'.ownsRow base e 1 (.slice (some ⟨g, 0, none⟩) (n + 1) c') (n + 1) (xs ++ [u]) → Tch (fun k => (Value.slice A n c).ownBlock = some k) wr w' → ((Value.slice A n c).ownBlock = some g ∨ wr.heap.size ≤ g) → wpList P ops Q rest (a.put o.dst (.slice (some ⟨g, 0, none⟩) (n + 1) c')) w') :
    wpList P ops Q (o :: rest) a (wr.alloc (.cells #[u] e)) := by
  obtain ⟨i, hi, hz, hz1, hz2⟩ := info_parts hinfo
  have hb2 : (n + 1) * bytes ≤ (n + 1) * 24 := Nat.mul_le_mul_left _ hb8
  refine wpList_append_lies (wr.alloc (.cells #[u] e)) hgd s x t ho base e i z 1 bytes ht hi hz hz1 hz2 hz0 (by omega) _ n xs hs (hown.alloc _) ⟨wr.heap.size, 0, none⟩ 1 1 [u] hx rfl
    (cell_one_new _ _ _) (by intro v hv; simp at hv; subst hv; exact hu) (by omega) (by unfold maxLen; omega) (by omega) (by simp; omega) _ rfl ?_
  intro g cap w' hown' hg hat hlt
  have hs1 : (wr.alloc (.cells #[u] e)).heap.size = wr.heap.size + 1 := by simp only [World.alloc, Array.size_push]
  refine h g cap w' (by simpa using hown') ?_ (hat.imp id fun q => by omega)
  refine (Tch.alloc (S := fun k => (Value.slice A n c).ownBlock = some k) (Tch.refl _ wr) (.cells #[u] e)).trans (S' := fun k => (Value.slice A n c).ownBlock = some k) ⟨hg.os, hg.tape, hg.output, hg.size, fun k hk hn => hg.block k hk (fun q => hn q.symm)⟩ (fun k q => .inl q)
/-- 'append(zs, xs...)', xs not empty. -/
theorem wpList_catG {ops : Array Oper} {rest : List Oper} {o : Oper} {a : Act} {Q : Exit → Act → World → Prop} (hgd : o.guard = none) (s x : Operand)
    (ho : o.op = .call { callee := .builtin .append, args := #[s, x], argTypes := #[23, 23] })
    (base : Nat) (wr : World) (A : Option Addr) (n c : Nat) (zs : List Int) (A2 : Option Addr) (n2 c2 : Nat) (xs : List Int) (hs : a.eval s = .slice A n c) (hown : OwnI wr base A n c zs)
    (hx : a.eval x = .slice A2 n2 c2) (hr : Rd wr wr.heap.size A2 n2 (xs.map (.int .i64))) (hn2 : 0 < n2) (hn : n + n2 ≤ 1048576) (hbase : base ≤ wr.heap.size)
    (h : ∀ g c' w', OwnI w' base (some ⟨g, 0, none⟩) (n + n2) c' (zs ++ xs) → Tch (fun k => (Value.slice A n c).ownBlock = some k) wr w' → ((Value.slice A n c).ownBlock = some g ∨ wr.heap.size ≤ g) → wpList Try.prog ops Q rest (a.put o.dst (.slice (some ⟨g, 0, none⟩) (n + n2) c')) w') :
    wpList Try.prog ops Q (o :: rest) a wr := by
  obtain ⟨i, hi, hz, hz1, hz2⟩ := info_parts info_int
  obtain ⟨b, of, rfl, hb, hc⟩ := hr.2 hn2
  refine wpList_append_lies wr hgd s x 23 ho base 3 i (.int .i64 0) 1 8 Try.underlying23 hi hz hz1 hz2 rfl (by decide) _ n (zs.map (.int .i64)) hs hown ⟨b, of, none⟩ n2 c2 (xs.map (.int .i64)) hx (by rw [List.length_map, hr.lenI, Nat.mul_one])
    (by intro j u hu; rw [Addr.add_lit]; exact hc j u hu) (by intro v hv; obtain ⟨z, _, rfl⟩ := List.mem_map.1 hv; rfl) hn2 (by unfold maxLen; omega) (by omega) hbase _ rfl ?_
  intro g cap w' hown' hg hat hlt
  exact h g cap w' (by show World.ownsRow _ _ _ _ _ _ _; rw [List.map_append]; exact hown') ⟨hg.os, hg.tape, hg.output, hg.size, fun k hk hn => hg.block k hk (fun q => hn q.symm)⟩ (hat.imp id fun q => by omega)
/-- A list of lists of the call's own; X: blocks that may be written besides. -/
structure GrM (w : World) (EB : Nat) (X : Nat → Prop) (A : Option Addr) (n c : Nat) (is : List IS) : Prop where
  own : w.ownsRow EB 23 1 (.slice A n c) n (is.map IS.v)
  ox : ∀ k, (Value.slice A n c).ownBlock = some k → ¬ X k
  rows : ∀ l ∈ is, l.AtS w (fun b => b < w.heap.size ∧ ¬ X b ∧ ¬ (Value.slice A n c).ownBlock = some b) .i64
theorem GrM.nil_ (w : World) (EB : Nat) (X : Nat → Prop) : GrM w EB X none 0 0 [] := ⟨World.ownsRow_nil _ _ _ _, fun _ h => (by cases h), fun _ h => (by cases h)⟩
theorem ownsRow_apart {w w' : World} {EB e n c : Nat} {A : Option Addr} {xs : List Value} (h : w.ownsRow EB e 1 (.slice A n c) n xs) (hb : ∀ g, (Value.slice A n c).ownBlock = some g → w'.heap[g]? = w.heap[g]?) : w'.ownsRow EB e 1 (.slice A n c) n xs := by
  rcases Nat.eq_zero_or_pos n with h0 | h0
  · obtain ⟨h1, h2⟩ := h
    refine ⟨h1, ?_⟩
    rcases h2 with h2 | ⟨g, cap, cur, e1, e2, e3, e4, e5, e6, e7⟩
    · exact .inl h2
    · exact .inr ⟨g, cap, cur, e1, e2, (hb g (by injection e1 with e1; subst e1; rfl)).trans e3, e4, e5, e6, e7⟩
  · obtain ⟨h1, h2⟩ := h
    refine ⟨h1, ?_⟩
    rcases h2 with h2 | ⟨g, cap, cur, e1, e2, e3, e4, e5, e6, e7⟩
    · exact .inl h2
    · exact .inr ⟨g, cap, cur, e1, e2, (hb g (by injection e1 with e1; subst e1; rfl)).trans e3, e4, e5, e6, e7⟩
theorem GrM.tch {w w' : World} {EB n c : Nat} {X : Nat → Prop} {A : Option Addr} {is : List IS} (h : GrM w EB X A n c is) (ht : Tch X w w') : GrM w' EB X A n c is :=
  ⟨ownsRow_apart h.own fun g hg => ht.block g (World.ownsRow.lt h.own g hg).2 (h.ox g hg), h.ox, fun l hl => ((h.rows l hl).tch ht fun _ hb => ⟨hb.1, hb.2.1⟩).mono fun _ hb => ⟨Nat.lt_of_lt_of_le hb.1 ht.size, hb.2⟩⟩
theorem GrM.chX {w : World} {EB n c : Nat} {X X' : Nat → Prop} {A : Option Addr} {is : List IS} (h : GrM w EB X A n c is) (hX : ∀ k, X' k → X k ∨ w.heap.size ≤ k) : GrM w EB X' A n c is :=
  ⟨h.own, fun k hk q => (hX k q).elim (h.ox k hk) fun e => by have := (World.ownsRow.lt h.own k hk).2; omega, fun l hl => (h.rows l hl).mono fun b hb => ⟨hb.1, fun q => (hX b q).elim hb.2.1 fun e => by have := hb.1; omega, hb.2.2⟩⟩
theorem GrM.push {w w' : World} {EB n c c' g : Nat} {X : Nat → Prop} {A : Option Addr} {is : List IS} {l : IS} (h : GrM w EB X A n c is) (hX : ∀ k, X k → k < w.heap.size)
    (hl : l.AtS w (fun b => b < w.heap.size ∧ ¬ X b ∧ ¬ (Value.slice A n c).ownBlock = some b) .i64) (ho : w'.ownsRow EB 23 1 (.slice (some ⟨g, 0, none⟩) (n + 1) c') (n + 1) (is.map IS.v ++ [l.v]))
    (ht : Tch (fun k => (Value.slice A n c).ownBlock = some k) w w') (hg : (Value.slice A n c).ownBlock = some g ∨ w.heap.size ≤ g) : GrM w' EB X (some ⟨g, 0, none⟩) (n + 1) c' (is ++ [l]) := by
  refine ⟨by rw [List.map_append]; exact ho, fun k hk q => ?_, fun m hm => ?_⟩
  · have hk' : g = k := by injection hk
    subst hk'
    rcases hg with e | e
    · exact h.ox _ e q
    · have := hX _ q; omega
  · have h1 : m.AtS w (fun b => b < w.heap.size ∧ ¬ X b ∧ ¬ (Value.slice A n c).ownBlock = some b) .i64 := by
      rcases List.mem_append.1 hm with q | q
      · exact h.rows m q
      · rw [List.mem_singleton] at q; subst q; exact hl
    refine (h1.tch ht fun _ hb => ⟨hb.1, hb.2.2⟩).mono fun b hb => ⟨Nat.lt_of_lt_of_le hb.1 ht.size, hb.2.1, fun e => ?_⟩
    have e' : g = b := by injection e
    subst e'
    rcases hg with e2 | e2
    · exact hb.2.2 e2
    · have := hb.1; omega
theorem GrM.rd {w : World} {EB n c : Nat} {X : Nat → Prop} {A : Option Addr} {is : List IS} (h : GrM w EB X A n c is) : Rd w w.heap.size A n (is.map IS.v) ∧ ∀ l ∈ is, l.At w w.heap.size .i64 :=
  ⟨Rd.of_own h.own, fun l hl => (h.rows l hl).at_ fun _ hb => hb.1⟩
def RetGr (ls : List (List Int)) (w : World) (e : Ending) (w' : World) : Prop := ∃ (A : Option Addr) (n c : Nat) (is : List IS), e = .returned (.slice A n c) ∧ Rd w' w'.heap.size A n (is.map IS.v) ∧ (∀ l ∈ is, l.At w' w'.heap.size .i64) ∧ is.map IS.xs = ls ∧ Below w.heap.size w w'
/-- A map that is a set of numbers. -/
structure CbD (D : DataW Unit) (xs : List Int) : Prop where
  tidy : Tidy D
  val : ∀ v : Int, D.atKey (.int .i64 v) (.lit (.bool false)) = .lit (.bool (hasI xs v))
theorem CbD.nil_ : CbD (.map []) [] := ⟨tidy_empty, fun _ => rfl⟩
theorem CbD.snoc {D : DataW Unit} {xs : List Int} (h : CbD D xs) (v : Int) : CbD (D.put (.int .i64 v) (.lit (.bool true))) (xs ++ [v]) := by
  have hkey : WideAt.IsKeyLit (.int .i64 v) := trivial
  refine ⟨h.tidy.put hkey _, fun u => ?_⟩
  by_cases e : u = v
  · subst e
    rw [atKey_put_same h.tidy.isMap hkey, hasI_iff.2 (by simp)]
  · rw [atKey_put_other (fun q => e (key_inj q)), h.val u]
    congr 2
    rw [Bool.eq_iff_iff, hasI_iff, hasI_iff]
    simp [e]
def MbAt (w : World) (b n : Nat) (D : DataW Unit) : Prop := w.ownsMap Try.prog 3 (plainElem Try.prog 4) b n D
theorem MbAt.at_ {w w' : World} {b n : Nat} {D : DataW Unit} (h : MbAt w b n D) (hb : w'.heap[b]? = w.heap[b]?) : MbAt w' b n D := by
  obtain ⟨es, clock, h1, h2⟩ := h
  exact ⟨es, clock, hb.trans h1, h2⟩
theorem MbAt.lt {w : World} {b n : Nat} {D : DataW Unit} (h : MbAt w b n D) : b < w.heap.size := World.ownsMap.lt h
theorem MbAt.below {w w' : World} {b n : Nat} {D : DataW Unit} (h : MbAt w b n D) (hb : Below w.heap.size w w') : MbAt w' b n D := h.at_ (hb.block _ h.lt)
theorem zeroB : ∀ w, (zeroValue 4).run Try.prog w = .ok (.bool false) w := by
  have h : (Try.prog.info? 4).map (fun i => (i.zero, i.size)) = some (some (.bool false), 1) := by kernel_rfl
  exact (zero_of_info h).1
theorem fromI_self {ns : List ND} {level x : Int} (hx : x ∈ liveI ns) : x ∈ fromI ns level [x] := List.mem_filter.2 ⟨hx, hasI_iff.2 (bI_cl (k := 0) (List.mem_singleton.2 rfl))⟩
theorem fromI_le (ns : List ND) (level : Int) (xs : List Int) : (fromI ns level xs).length ≤ ns.length := Nat.le_trans (List.length_filter_le _ _) (liveI_le ns)
theorem grp_len (ns : List ND) (level : Int) : ∀ (l : List Int) (p : List (List Int) × List Int), (l.foldl (grpF ns level) p).1.length ≤ p.1.length + l.length ∧ (l.foldl (grpF ns level) p).2.length ≤ p.2.length + ns.length * l.length
  | [], p => ⟨Nat.le_refl _, Nat.le_refl _⟩
  | x :: l, p => by
    obtain ⟨h1, h2⟩ := grp_len ns level l (grpF ns level p x)
    have h3 := fromI_le ns level [x]
    rw [List.foldl_cons, List.length_cons, Nat.mul_succ]
    have h4 : (grpF ns level p x).1.length ≤ p.1.length + 1 ∧ (grpF ns level p x).2.length ≤ p.2.length + ns.length := by
      unfold grpF
      split
      · exact ⟨Nat.le_succ _, Nat.le_add_right _ _⟩
      · simp; omega
    omega
theorem OwnI.atS {w : World} {B n c : Nat} {A : Option Addr} {xs : List Int} (h : OwnI w B A n c xs) (hn : n ≤ 1048576) (hwf : ∀ x ∈ xs, (Lit.int .i64 x).wf = true) : IS.AtS w (fun b => B ≤ b ∧ b < w.heap.size) .i64 ⟨A, n, c, xs⟩ := by
  refine ⟨h.none_, hn, ⟨h.rd.1, fun h0 => ?_⟩, hwf⟩
  obtain ⟨b, o, e, hb, hc⟩ := h.rd.2 h0
  refine ⟨b, o, e, ⟨?_, hb⟩, hc⟩
  rcases h.row with ⟨e2, _⟩ | ⟨g, e2, hB, _⟩
  · have h1 : A = some ⟨b, o, none⟩ := e
    rw [e2] at h1; cases h1
  · have h1 : A = some ⟨b, o, none⟩ := e
    rw [e2] at h1; injection h1 with h1; injection h1 with h1; omega
theorem Tch.pl1 {w w' : World} {B b n c bm : Nat} {A : Option Addr} {ns : List ND} (hg : PgAt w B A n c ns) (ht : Tch (fun k => k = bm) w w') (hB : B ≤ w.heap.size) (h2 : B ≤ bm) (hb : B ≤ b) : PgAt w' b A n c ns :=
  (hg.below (ht.below hB (by rintro k rfl; omega))).more hb
theorem gr_cat {w w' : World} {EB n c g n' c' : Nat} {X : Nat → Prop} {A : Option Addr} {is : List IS} (h : GrM w EB X A n c is) (ht : Tch X w w') (hg : X g ∨ w.heap.size ≤ g) : GrM w' EB (fun k => (Value.slice (some ⟨g, 0, none⟩) n' c').ownBlock = some k) A n c is := by
  have h1 : GrM w EB (fun k => (Value.slice (some ⟨g, 0, none⟩) n' c').ownBlock = some k) A n c is := h.chX fun k q => by
    have e : g = k := by injection q
    subst e; exact hg
  have h2 := h.tch ht
  exact ⟨h2.own, h1.ox, fun l hl => ((h1.rows l hl).mono (S' := fun b => b < w.heap.size ∧ ¬ (Value.slice (some ⟨g, 0, none⟩) n' c').ownBlock = some b ∧ ¬ (Value.slice A n c).ownBlock = some b) fun _ q => q) |> fun _ => by
    refine ⟨(h2.rows l hl).1, (h2.rows l hl).2.1, ⟨(h2.rows l hl).2.2.1.1, fun h0 => ?_⟩, (h2.rows l hl).2.2.2⟩
    obtain ⟨b, o, e, hb, hc⟩ := (h2.rows l hl).2.2.1.2 h0
    obtain ⟨b', o', e', hb', _⟩ := (h1.rows l hl).2.2.1.2 h0
    rw [e] at e'; injection e' with e'; injection e' with e1 e2
    subst e1
    exact ⟨b, o, e, ⟨hb.1, hb'.2.1, hb.2.2⟩, hc⟩⟩
theorem sameBr (xs : List Int) : sameB xs xs = true := by unfold sameB; exact decide_eq_true rfl
theorem run_one (w : World) (x : Int) : (Instr.buildSlice 23 1 #[(0, .int .i64 x)]).run Try.prog w = .ok (.slice (some ⟨w.heap.size, 0, none⟩) 1 1) (w.alloc (.cells #[.int .i64 x] 3)) := by
  obtain ⟨i, hi, hz, hz1, hz2⟩ := info_parts info_int
  refine Go.run_buildSlice w _ _ 1 _ _ i (.int .i64 0) Try.underlying23 hi hz (by rw [hz1]; decide) (by rw [hz1]; decide) ?_
  rw [hz1]; kernel_rfl
theorem exec_one {o : Oper} {a : Act} {x : Int} {parts : Array (Nat × Operand)} (ho : o.op = .buildSlice 23 1 parts) (hp : (parts.map fun (i, y) => (i, a.eval y)) = #[(0, .int .i64 x)]) (w : World) : (execOp a.eval o).run Try.prog w = .ok (.value (.slice (some ⟨w.heap.size, 0, none⟩) 1 1)) (w.alloc (.cells #[.int .i64 x] 3)) := by
  unfold execOp
  simp only [ho, hp, Sem.run_bind, run_one, Result.andThen_ok]
  rfl
theorem whole_eq {ns : List ND} {m k : Nat} (h1 : (fromI ns 0 [0]).length = m) (h2 : (liveI ns).length = k) : ((m : Int) == (k : Int)) = wholeI ns := by
  unfold wholeI
  rw [h1, h2, Bool.eq_iff_iff, beq_iff_eq, decide_eq_true_iff]
  omega
theorem nodup_with {l : List Int} (h : l.Nodup) (v : Int) : (withI l v).Nodup := by
  unfold withI
  split
  · exact h
  · rename_i q
    rw [hasI_iff] at q
    refine List.nodup_append.2 ⟨h, by simp, fun a ha b hb e => ?_⟩
    simp only [List.mem_singleton] at hb
    subst hb; subst e
    exact q ha
theorem nodup_kept (ns : List ND) (l : List Int) : ∀ k, k ≤ l.length → (keptI (nearQ ns l) l k).Nodup
  | 0, _ => List.nodup_nil
  | k + 1, h => by
    rw [kept_with ns l (show k < l.length by omega)]
    split
    · exact nodup_with (nodup_kept ns l k (by omega)) _
    · exact nodup_kept ns l k (by omega)
theorem nodup_near (ns : List ND) (s level : Int) : (nearI ns s level).Nodup := by
  unfold nearI
  split
  · exact nodup_kept ns _ _ (Nat.le_refl _)
  · exact List.nodup_nil
theorem near_le (ns : List ND) (s level : Int) : (nearI ns s level).length ≤ ns.length :=
  Nat.le_trans (len_sub _ _ (nodup_near ns s level) fun _ hx => mem_liveI.2 (near_there hx)) (liveI_le ns)
theorem sq_le {m n : Nat} (hn : n ≤ 1000) (hm : m ≤ 30) : (m + n) + n * (m + n) ≤ 1048576 := by
  have h1 : n * (m + n) ≤ 1000 * 1030 := Nat.mul_le_mul hn (by omega)
  omega
theorem sq_le2 {m n : Nat} (hn : n ≤ 1000) (hm : m ≤ 30) : m + n * (m + n) ≤ 1048576 := by have := sq_le hn hm; omega
section
variable {ns ns' : List ND}
theorem Eqv.bI (h : Eqv ns ns') (level : Int) (xs : List Int) : ∀ k, bI ns level xs k = Proofs.Ytckclflbcgblaaa.bI ns' level xs k
  | 0 => rfl
  | k + 1 => by
    show stepI ns level (Proofs.Ytckclflbcgblaaa.bI ns level xs k) = stepI ns' level (Proofs.Ytckclflbcgblaaa.bI ns' level xs k)
    rw [h.bI level xs k]
    unfold stepI
    congr 1
    funext out x
    rw [h.near]
theorem Eqv.cl (h : Eqv ns ns') (level : Int) (xs : List Int) : clI ns level xs = clI ns' level xs := by unfold clI; rw [h.len, h.bI]
theorem Eqv.from_ (h : Eqv ns ns') (level : Int) (xs : List Int) : fromI ns level xs = fromI ns' level xs := by unfold fromI; rw [h.live, h.cl]
theorem Eqv.whole (h : Eqv ns ns') : wholeI ns = wholeI ns' := by unfold wholeI; rw [h.from_, h.live]
theorem Eqv.grp (h : Eqv ns ns') (level : Int) : grpI ns level = grpI ns' level := by
  unfold grpI
  rw [h.live]
  congr 2
  funext p s
  unfold grpF
  rw [h.from_, nm_level (h.nAt _)]
theorem Eqv.st (h : Eqv ns ns') {level a b r : Int} {is : Bool} (q : StR ns level a b r is) : StR ns' level a b r is := by
  unfold StR at q ⊢
  simp only [h.bI, h.cl, h.thB] at q
  exact q
end
section
variable {w : World} {g n c : Nat} {en tp : Int} {L : List ND}
end
def rq1 : List ND := putSt [nd0] 1 (putND [nd0] 7 0 [] 0 1)
def rq2 : List ND := putSt rq1 2 (putND rq1 8 0 [] 0 1)
theorem rp1 : putW [nd0] 2 0 0 1 7 = 0 ∧ slotI [nd0] = 1 := by decide +kernel
theorem rp2 : putW rq1 2 0 0 1 8 = 0 ∧ slotI rq1 = 2 := by decide +kernel
theorem rp3 : fromI rq2 0 [0] = [1, 2] ∧ fromI rq2 0 [] = [] ∧ wholeI rq2 = true ∧ rq2.length ≤ 1000 := by decide +kernel
theorem rp4 : grpI rq2 1 = [[1], [2]] ∧ grpI rq2 0 = [[1, 2]] ∧ grpI rq2 2 = [] := by decide +kernel
theorem rp5 : StR rq2 0 0 1 1 true := .inl ⟨rfl, by decide +kernel, 1, rfl, by decide +kernel, by
  intro j hj
  obtain rfl : j = 0 := by omega
  decide +kernel⟩
theorem rp6 : StR rq2 1 2 1 0 false := .inr ⟨rfl, rfl, .inr (by decide +kernel)⟩
theorem is_lit {w : World} {B : Nat} {A : Option Addr} {n : Nat} {xs : List Int} (hr : Rd w B A n (xs.map (.int .i64))) (hA : A ≠ none) (hn : n ≤ 100) (hwf : ∀ x ∈ xs, (Lit.int .i64 x).wf = true) : IS.At w B .i64 ⟨A, n, n, xs⟩ := ⟨fun e => absurd e hA, by show n ≤ _; omega, hr, hwf⟩
theorem rows_at {w : World} {t : Nat} {vs : List Value} : Rd (w.alloc (.cells vs.toArray t)) (w.alloc (.cells vs.toArray t)).heap.size (some ⟨w.heap.size, 0, none⟩) vs.length vs :=
  ⟨rfl, fun _ => ⟨w.heap.size, 0, rfl, (Blk.new w t vs.toArray).lt, fun j u hu => by
    rw [Nat.zero_add, (Blk.new w t vs.toArray).cell]
    simpa using hu⟩⟩
end Go.Proofs.Ytckclflbcgblaaa
