/- Items at hand; slices that grow by an element. -/
import Derived.Test.YtpcbfoddlpgdjaaRkA
import Derived.Test.YtpcbfoddlpgdjaaPlP
import Derived.Test.YtpcbfoddlpgdjaaVecW
import Derived.Laws.OwnMore
import Derived.Laws.MakeOwn
import Derived.Deep.AppendLies
import Derived.Maps.AppendAt
namespace Go.Proofs.Ytpcbfoddlpgdjaa
open Go.RowKit
/-- A vector at hand. -/
def IS.Vec (w : World) (B : Nat) (l : IS) : Prop := (l.A = none → l.n = 0 ∧ l.c = 0) ∧ l.n ≤ 9223372036854775807 ∧ Rd w B l.A l.n (l.xs.map (.int .i32)) ∧ ∀ z ∈ l.xs, -2147483648 ≤ z ∧ z ≤ 2147483647
theorem IS.Vec.below {w w' : World} {B : Nat} {l : IS} (h : l.Vec w B) (hb : Below B w w') : l.Vec w' B := ⟨h.1, h.2.1, h.2.2.1.below hb, h.2.2.2⟩
theorem IS.Vec.more {w : World} {B B' : Nat} {l : IS} (h : l.Vec w B) (hB : B ≤ B') : l.Vec w B' := ⟨h.1, h.2.1, h.2.2.1.more hB, h.2.2.2⟩
/-- An item. -/
structure ItX where
  id : Int
  vec : IS
  tags : Int
def ItX.cells (d : ItX) : Array Value := #[.int .u64 d.id, d.vec.v, .int .u64 d.tags]
def itx0 : Array Value := #[.int .u64 0, .slice none 0 0, .int .u64 0]
/-- Items at hand. -/
def Its (w : World) (B : Nat) (A : Option Addr) (n : Nat) (l : List ItX) : Prop := Rs w B A n 3 (l.map fun d => d.cells.toList) ∧ ∀ d ∈ l, d.vec.Vec w B
theorem Its.below {w w' : World} {B : Nat} {A : Option Addr} {n : Nat} {l : List ItX} (h : Its w B A n l) (hb : Below B w w') : Its w' B A n l := ⟨h.1.below hb, fun d hd => (h.2 d hd).below hb⟩
theorem Its.more {w : World} {B B' : Nat} {A : Option Addr} {n : Nat} {l : List ItX} (h : Its w B A n l) (hB : B ≤ B') : Its w B' A n l := ⟨h.1.more hB, fun d hd => (h.2 d hd).more hB⟩
theorem Its.on {w w' : World} {A : Option Addr} {n : Nat} {l : List ItX} {B : Nat} (h : Its w B A n l) (hB : B ≤ w.heap.size) (hb : Below w.heap.size w w') : Its w' w'.heap.size A n l := ((h.more hB).below hb).more hb.size
theorem Its.len {w : World} {B : Nat} {A : Option Addr} {n : Nat} {l : List ItX} (h : Its w B A n l) : l.length = n := by have := h.1.len; simpa using this
theorem Its.at_ {w : World} {B : Nat} {A : Option Addr} {n : Nat} {l : List ItX} (h : Its w B A n l) {i : Nat} (hi : i < n) : ∃ b o d, A = some ⟨b, o, none⟩ ∧ b < B ∧ l[i]? = some d ∧ d.vec.Vec w B ∧ w.rangeAt b (o + i * 3) d.cells.toList := by
  obtain ⟨b, o, c, e, hb, hc, _, hr⟩ := h.1.at_ hi
  rw [List.getElem?_map] at hc
  obtain ⟨d, hd, rfl⟩ := Option.map_eq_some_iff.1 hc
  exact ⟨b, o, d, e, hb, hd, h.2 d (List.mem_of_getElem? hd), hr⟩
def dX (q : IS) (d : ItX) : Int := (distE q.xs d.vec.xs : Nat)
theorem itTX : (Try.prog.info? 45).map (·.size) = some 3 := by kernel_rfl
theorem itx_load {w : World} {b o : Nat} {d : ItX} (h : w.rangeAt b o d.cells.toList) : (Instr.loadAt 45 (.pointer (some ⟨b, o, none⟩))).run Try.prog w = .ok (.agg d.cells) w := range_load h Try.underlying45 rfl itTX
theorem itx_put (W : World) (d : ItX) : (Instr.storeAt 45 (.pointer (some ⟨W.heap.size, 0, none⟩)) (.agg d.cells)).run Try.prog (W.alloc (.cells itx0 45)) = .ok () ((W.alloc (.cells itx0 45)).setCells W.heap.size 0 d.cells.toList) :=
  row_store (Blk.new W 45 itx0) d.cells rfl itTX (by simp [ItX.cells, IS.v, Value.oneCell'])
theorem itx_blk (W : World) (d : ItX) : Blk ((W.alloc (.cells itx0 45)).setCells W.heap.size 0 d.cells.toList) W.heap.size 45 d.cells := (Blk.new W 45 itx0).put _ rfl
theorem size_setCellsX (g : Nat) : ∀ (vs : List Value) (o : Nat) (w : World), (w.setCells g o vs).heap.size = w.heap.size
  | [], _, _ => rfl
  | v :: r, o, w => (size_setCellsX g r (o + 1) (w.setCell ⟨g, o, none⟩ v)).trans (by simp [World.setCell])
theorem put_bel (W : World) (o : Obj) (vs : List Value) : Below W.heap.size W ((W.alloc o).setCells W.heap.size 0 vs) :=
  (Tch.setCells (S := fun k => k = W.heap.size) rfl vs 0 (W.alloc o) ((Tch.refl _ W).alloc o)).below (Nat.le_refl _) (fun _ hk => Nat.le_of_eq hk.symm)
theorem put_size (W : World) (o : Obj) (vs : List Value) : ((W.alloc o).setCells W.heap.size 0 vs).heap.size = W.heap.size + 1 := by
  rw [size_setCellsX]; simp only [World.alloc, Array.size_push]
theorem load_i32sK {w : World} {b o : Nat} {A : Option Addr} {n c : Nat} (h : w.cell? ⟨b, o, none⟩ = some (.slice A n c)) : (Instr.loadAt 22 (.pointer (some ⟨b, o, none⟩))).run Try.prog w = .ok (.slice A n c) w := by
  simp [go_sem, h]
theorem dist_c (q : IS) (v : IS) (w : World) (B : Nat) (hq : q.Vec w B) (hv : v.Vec w B) : Calls Try.prog 25 #[q.v, v.v] w fun e w' => e = .returned (.int .u64 (distE q.xs v.xs : Nat)) ∧ w = w' :=
  vec_dist q.A q.n q.c q.xs v.A v.n v.c v.xs B w hq.2.2.1 hv.2.2.1 hq.2.2.2 hv.2.2.2 hq.2.1 hv.2.1
theorem grownBy_trans {a b c : World} {r : Option Nat} (h : a.grownBy b none) (h' : b.grownBy c r) : a.grownBy c r :=
  ⟨h'.os.trans h.os, h'.tape.trans h.tape, h'.output.trans h.output, Nat.le_trans h.size h'.size, fun k hk hn => (h'.block k (Nat.lt_of_lt_of_le hk h.size) hn).trans (h.block k hk (by intro q; cases q))⟩
theorem grownBy_tch {a b : World} {r : Option Nat} (h : a.grownBy b r) : Tch (fun k => some k = r) a b := ⟨h.os, h.tape, h.output, h.size, fun k hk hn => h.block k hk hn⟩
theorem ownsRow_tch {w w' : World} {base e sz n : Nat} {v : Value} {xs : List Value} {S : Nat → Prop} (h : w.ownsRow base e sz v n xs) (hT : Tch S w w') (hS : ∀ k, v.ownBlock = some k → ¬ S k) : w'.ownsRow base e sz v n xs := by
  refine ⟨h.1, ?_⟩
  rcases h.2 with h0 | ⟨g, cap, cur, rfl, hg, hh, h1, h2, h3, h4⟩
  · exact .inl h0
  · exact .inr ⟨g, cap, cur, rfl, hg, (hT.block g (Array.getElem?_eq_some_iff.1 hh).1 (hS g rfl)).trans hh, h1, h2, h3, h4⟩
theorem Rs.tch {w w' : World} {B : Nat} {A : Option Addr} {n sz : Nat} {cs : List (List Value)} {S : Nat → Prop} (h : Rs w B A n sz cs) (hT : Tch S w w') (hB : B ≤ w.heap.size) (hS : ∀ b o, A = some ⟨b, o, none⟩ → ¬ S b) : Rs w' B A n sz cs :=
  ⟨h.1, h.2.1, fun hn => by
    obtain ⟨b, o, e, hb, hc⟩ := h.2.2 hn
    exact ⟨b, o, e, hb, fun i c hi => rangeAt_keep (hc i c hi) fun j => hT.cell (p := ⟨b, j, none⟩) (by show b < _; omega) (hS b o e)⟩⟩
set_option maxRecDepth 100000 in
/-- 'append(l, x)': an element behind a row of the call's own. -/
theorem wpList_push1 {ops : Array Oper} {rest : List Oper} {o : Oper} {a : Act} {Q : Exit → Act → World → Prop} (hgd : o.guard = none) (s x : Operand) (T e sz bytes : Nat) (z : Value)
    (ho : o.op = .call { callee := .builtin .append, args := #[s, x], argTypes := #[T, T] })
    (hT : Try.prog.underlying T = some (.slice e)) (hinfo : (Try.prog.info? e).map (fun i => (i.zero, i.size, i.bytes)) = some (some z, sz, bytes)) (hzs : z.cells.size = sz) (hsz : 0 < sz)
    (wr : World) (base : Nat) (v : Value) (n : Nat) (xs : List Value) (cs : Array Value) (hs : a.eval s = v) (hown : wr.ownsRow base e sz v n xs)
    (hx : a.eval x = .slice (some ⟨wr.heap.size, 0, none⟩) 1 1) (hcs : cs.size = sz) (h1 : ∀ u ∈ cs.toList, u.oneCell' = true) (hn : n ≤ 1099511627776) (hby : bytes ≤ 88) (hbase : base ≤ wr.heap.size)
    (h : ∀ g c' w', w'.ownsRow base e sz (.slice (some ⟨g, 0, none⟩) (n + 1) c') (n + 1) (xs ++ cs.toList) → wr.grownBy w' v.ownBlock → Below base wr w' → (v.ownBlock = some g ∨ wr.heap.size ≤ g) → wpList Try.prog ops Q rest (a.put o.dst (.slice (some ⟨g, 0, none⟩) (n + 1) c')) w') :
    wpList Try.prog ops Q (o :: rest) a (wr.alloc (.cells cs e)) := by
  obtain ⟨i, hi, hz, hz1, hz2⟩ := info_parts hinfo
  have hb2 : (n + 1) * bytes ≤ (n + 1) * 88 := Nat.mul_le_mul_left _ hby
  refine wpList_append_lies (wr.alloc (.cells cs e)) hgd s x T ho base e i z sz bytes hT hi hz hz1 hz2 hzs hsz v n xs hs (hown.alloc _) ⟨wr.heap.size, 0, none⟩ 1 1 cs.toList hx (by simpa using hcs)
    (World.news_of_block (cs := cs) (t := e) (fr := (0, 0)) (heap_alloc_new wr _)) h1 (by omega) (by unfold maxLen; omega) (by omega) (by simp; omega) _ rfl ?_
  intro g cap w' hown' hg hat hlt
  refine h g cap w' hown' (grownBy_trans (World.grownBy_alloc wr _ none) hg) ?_ (hat.imp_right fun q => by rw [q]; simp only [World.alloc, Array.size_push]; omega)
  exact ((Below.refl base wr).alloc hbase _).grown hg (by simp; omega) fun k hk => (hown.lt k hk).1
section
variable {P : Program} {ops : Array Oper} {Q : Exit → Act → World → Prop} {md : Region.Mode} {S : World → Prop} {fuel : Nat} {listed : Array Bool} {a : Act} {w : World} {o : Oper}
/-- In a region that draws: the one operation that may come up next appends an element. -/
theorem wpAnyH_push1 (i : Nat) (hr : Region.ready md ops listed = [i]) (ho : ops[i]? = some o) (s x : Operand) (T e sz bytes : Nat) (z : Value)
    (hop : o.op = .call { callee := .builtin .append, args := #[s, x], argTypes := #[T, T] }) (hT : P.underlying T = some (.slice e)) (hinfo : (P.info? e).map (fun i => (i.zero, i.size, i.bytes)) = some (some z, sz, bytes)) (hzs : z.cells.size = sz) (hsz : 0 < sz)
    (wr : World) (base : Nat) (v : Value) (n : Nat) (xs : List Value) (cs : Array Value) (hw0 : w = wr.alloc (.cells cs e)) (hw : Region.wanted o (yielded ops a.tmps) = true) (hs : a.eval s = v) (hown : wr.ownsRow base e sz v n xs)
    (hx : a.eval x = .slice (some ⟨wr.heap.size, 0, none⟩) 1 1) (hcs : cs.size = sz) (h1 : ∀ u ∈ cs.toList, u.oneCell' = true) (hn : n ≤ 1099511627776) (hby : bytes ≤ 88) (hbase : base ≤ wr.heap.size)
    (h : ∀ g c' w', w'.ownsRow base e sz (.slice (some ⟨g, 0, none⟩) (n + 1) c') (n + 1) (xs ++ cs.toList) → wr.grownBy w' v.ownBlock → Below base wr w' → (v.ownBlock = some g ∨ wr.heap.size ≤ g) → S w' ∧ wpAnyH P md ops Q S fuel (listed.setIfInBounds i true) (a.put o.dst (.slice (some ⟨g, 0, none⟩) (n + 1) c')) w') :
    wpAnyH P md ops Q S (fuel + 1) listed a w := by
  subst hw0
  obtain ⟨i, hi, hz, hz1, hz2⟩ := info_parts hinfo
  have hb2 : (n + 1) * bytes ≤ (n + 1) * 88 := Nat.mul_le_mul_left _ hby
  refine wpAnyH_ready hr (by simp) (AllReadyH.cons ho (fun K hK => ?_) AllReadyH.nil)
  rw [if_pos hw]
  refine wp_append_lies (wr.alloc (.cells cs e)) s x T hop base e i z sz bytes hT hi hz hz1 hz2 hzs hsz v n xs hs (hown.alloc _) ⟨wr.heap.size, 0, none⟩ 1 1 cs.toList hx (by simpa using hcs)
    (World.news_of_block (cs := cs) (t := e) (fr := (0, 0)) (heap_alloc_new wr _)) h1 (by omega) (by unfold maxLen; omega) (by omega) (by simp; omega) _ rfl fun g cap w' h2 h3 h4 h5 => ?_
  obtain ⟨q1, q2⟩ := h g cap w' h2 (grownBy_trans (World.grownBy_alloc wr _ none) h3) (((Below.refl base wr).alloc hbase _).grown h3 (by simp; omega) fun k hk => (hown.lt k hk).1) (h4.imp_right fun q => by rw [q]; simp only [World.alloc, Array.size_push]; omega)
  exact hK.out _ _ q1 (fun _ => q2)
end
end Go.Proofs.Ytpcbfoddlpgdjaa
