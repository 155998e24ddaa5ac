/- The document's node, read. Printed by genImS.py out of ImS.frame. -/
import Derived.Test.YtbpcddimnbjoeaaImOR
import Derived.Deep.CutRange
import Derived.Deep.CutBlock
namespace Go.Proofs.Ytbpcddimnbjoeaa
open Go.RowKit
theorem wpList_loadT {P : Program} {ops : Array Oper} {rest : List Oper} {d : Option Tmp} {i : Tmp} {ty t : TypeId} {s : String} {af : Array Edge} {a : Act} {w : World} {Q : Exit → Act → World → Prop} {p v : Value} (hr : (Instr.loadAt ty p).run P w = .ok v w)
    (hx : a.eval (.tmp i) = p) (h : wpList P ops Q rest (a.put d v) w) : wpList P ops Q (⟨d, .load ty (.tmp i), t, s, af, none⟩ :: rest) a w :=
  wpList_loadE hr (.tmp i) rfl rfl hx h
/-- A node whose vector is read, by the document. -/
structure NvS (w : World) (N : Nat) (id tg : Int) (s : RS) (xs : List Int) (wr : World) (l : List Int) (wy : Int) (A : Option Addr) (n c : Nat) : Prop where
  iv : IvT s l wy
  ig : Blk wr w.heap.size 73 #[.string (strOfNums l), .int .i64 wy, .int .i64 s.e]
  ir : Blk wr (w.heap.size + 1) 73 #[.string ⟨#[]⟩, .int .i64 0, .int .i64 0]
  inn : Blk wr (w.heap.size + 2) 42 nzL
  nd : Blk wr N 42 #[.int .u64 id, .slice A n c, .int .u64 tg, .int .i64 0, .slice none 0 0, .int .i64 0, .int .i64 0]
  own : wr.ownsRow (N + 1) 21 1 (.slice A n c) n (xs.map (.int .i32))
  len : xs.length = n
  wf : ∀ x ∈ xs, (Lit.int .i32 x).wf = true
  bel : Below w.heap.size w wr
  ln : w.heap.size + 2 < N
/-- .. whose lists are read. -/
structure NlS (w : World) (N : Nat) (id tg lv : Int) (vec : IS) (B3 : Nat) (s : RS) (ls : List IS) (wr : World) (l : List Int) (wy : Int) (A : Option Addr) (n c : Nat) : Prop where
  iv : IvT s l wy
  ig : Blk wr w.heap.size 73 #[.string (strOfNums l), .int .i64 wy, .int .i64 s.e]
  ir : Blk wr (w.heap.size + 1) 73 #[.string ⟨#[]⟩, .int .i64 0, .int .i64 0]
  inn : Blk wr (w.heap.size + 2) 42 nzL
  nd : Blk wr N 42 #[.int .u64 id, vec.v, .int .u64 tg, .int .i64 lv, .slice A n c, .int .i64 0, .int .i64 0]
  vec : vec.AtS wr (fun k => N + 1 ≤ k ∧ k < B3) .i32
  b3 : N + 1 ≤ B3 ∧ B3 ≤ wr.heap.size
  own : wr.ownsRow B3 43 1 (.slice A n c) n (ls.map IS.v)
  len : ls.length = n
  lss : ∀ l ∈ ls, l.AtS wr (fun k => B3 ≤ k ∧ k < wr.heap.size ∧ (Value.slice A n c).ownBlock ≠ some k) .i64 ∧ l.n ≤ l.c
  bel : Below w.heap.size w wr
  ln : w.heap.size + 2 < N
section
variable {w wr w' W5 : World} {N : Nat} {id tg lv : Int} {s s' : RS} {xs l l' : List Int} {wy wy' : Int} {A : Option Addr} {n c b c' : Nat} {ls : List IS} {vec : IS} {B3 : Nat}
theorem NvS.sz (H : NvS w N id tg s xs wr l wy A n c) : N + 1 ≤ wr.heap.size := H.nd.lt
theorem NvS.put (H : NvS w N id tg s xs wr l wy A n c) (ht : Tch (fun k => k = w.heap.size) wr w') (hb : Blk w' w.heap.size 73 #[.string (strOfNums l'), .int .i64 wy', .int .i64 s'.e]) (hi : IvT s' l' wy') : NvS w N id tg s' xs w' l' wy' A n c :=
  ⟨hi, hb, H.ir.tch ht (by omega), H.inn.tch ht (by omega), H.nd.tch ht (by have := H.ln; omega), ownsRow_tchJ H.own ht fun k hk => by have := (H.own.lt k hk).1; have := H.ln; omega, H.len, H.wf, H.bel.trans (ht.below H.bel.size fun k hk => by omega), H.ln⟩
theorem NvS.below (H : NvS w N id tg s xs wr l wy A n c) (hb : Below wr.heap.size wr w') : NvS w N id tg s xs w' l wy A n c :=
  H.put (Tch.of_below hb) (H.ig.below hb H.ig.lt) H.iv
theorem NvS.push (H : NvS w N id tg s xs wr l wy A n c) {x : Int} (hx : (Lit.int .i32 x).wf = true) (hgr : wr.grownBy W5 (Value.slice A n c).ownBlock) (hat : (Value.slice A n c).ownBlock = some b ∨ wr.heap.size ≤ b)
    (ho : W5.ownsRow (N + 1) 21 1 (.slice (some ⟨b, 0, none⟩) (n + 1) c') (n + 1) (xs.map (.int .i32) ++ #[.int .i32 x].toList)) :
    NvS w N id tg s (xs ++ [x]) (W5.setCell ⟨N, 1, none⟩ (.slice (some ⟨b, 0, none⟩) (n + 1) c')) l wy (some ⟨b, 0, none⟩) (n + 1) c' := by
  have hb : N + 1 ≤ b := by
    rcases hat with h | h
    · exact (H.own.lt b h).1
    · have := H.sz; omega
  have ht := grownBy_tchJ hgr
  have hln := H.ln
  have hk : ∀ k, some k = (Value.slice A n c).ownBlock → N + 1 ≤ k := fun k h => (H.own.lt k h.symm).1
  obtain ⟨V, hV⟩ : ∃ V, W5.setCell ⟨N, 1, none⟩ (.slice (some ⟨b, 0, none⟩) (n + 1) c') = V := ⟨_, rfl⟩
  have t2 : Tch (fun k => N ≤ k) wr V := by rw [← hV]; exact (ht.mono fun k _ h => by have := hk k h; omega).setCell (Nat.le_refl _) _ _
  have t3 : Tch (fun k => k = N) W5 V := by rw [← hV]; exact Tch.setCell (S := fun k => k = N) (Tch.refl _ _) rfl _ _
  have e := (H.nd.tch ht fun h => by have := hk _ h; omega).set_ 1 (.slice (some ⟨b, 0, none⟩) (n + 1) c')
  rw [hV] at e ⊢
  refine ⟨H.iv, H.ig.tch t2 (by omega), H.ir.tch t2 (by omega), H.inn.tch t2 (by omega), by simpa using e, ?_, by rw [List.length_append, H.len]; rfl, ?_, H.bel.trans (t2.below H.bel.size fun k hk => by omega), hln⟩
  · rw [List.map_append]
    exact ownsRow_tchJ ho t3 fun k h => by
      have : b = k := by injection h
      omega
  · intro z hz
    rcases List.mem_append.1 hz with h | h
    · exact H.wf z h
    · rw [List.mem_singleton.1 h]; exact hx
theorem NvS.ids (H : NvS w N 0 0 s [] wr l wy none 0 0) (id tg : Int) : NvS w N id tg s [] ((wr.setCell ⟨N, 0, none⟩ (.int .u64 id)).setCell ⟨N, 2, none⟩ (.int .u64 tg)) l wy none 0 0 := by
  have hln := H.ln
  have t1 : Tch (fun k => k = N) wr ((wr.setCell ⟨N, 0, none⟩ (.int .u64 id)).setCell ⟨N, 2, none⟩ (.int .u64 tg)) := Tch.setCell (S := fun k => k = N) (Tch.setCell (S := fun k => k = N) (Tch.refl _ _) rfl _ _) rfl _ _
  have e := (H.nd.set_ 0 (.int .u64 id)).set_ 2 (.int .u64 tg)
  exact ⟨H.iv, H.ig.tch t1 (by omega), H.ir.tch t1 (by omega), H.inn.tch t1 (by omega), by simpa using e, World.ownsRow_nil _ _ _ _, rfl, fun x hx => (by cases hx), H.bel.trans (t1.below H.bel.size fun k hk => by omega), hln⟩
theorem NlS.put (H : NlS w N id tg lv vec B3 s ls wr l wy A n c) (ht : Tch (fun k => k = w.heap.size) wr w') (hb : Blk w' w.heap.size 73 #[.string (strOfNums l'), .int .i64 wy', .int .i64 s'.e]) (hi : IvT s' l' wy') : NlS w N id tg lv vec B3 s' ls w' l' wy' A n c :=
  ⟨hi, hb, H.ir.tch ht (by omega), H.inn.tch ht (by omega), H.nd.tch ht (by have := H.ln; omega), H.vec.tch ht fun k hk => ⟨by have := H.b3; omega, by have := H.ln; omega⟩, ⟨H.b3.1, by have := H.b3; have := ht.size; omega⟩, ownsRow_tchJ H.own ht fun k hk => by have := (H.own.lt k hk).1; have := H.b3; have := H.ln; omega, H.len,
    fun l hl => ⟨((H.lss l hl).1.tch ht fun k hk => ⟨hk.2.1, by have := H.b3; have := H.ln; omega⟩).mono fun k hk => ⟨hk.1, by have := ht.size; omega, hk.2.2⟩, (H.lss l hl).2⟩, H.bel.trans (ht.below H.bel.size fun k hk => by omega), H.ln⟩
theorem NlS.below (H : NlS w N id tg lv vec B3 s ls wr l wy A n c) (hb : Below wr.heap.size wr w') : NlS w N id tg lv vec B3 s ls w' l wy A n c :=
  H.put (Tch.of_below hb) (H.ig.below hb H.ig.lt) H.iv
theorem NlS.start (H : NvS w N id tg s xs wr l wy A n c) (hn : n ≤ 1048576) (lv : Int) : NlS w N id tg lv ⟨A, n, c, xs⟩ wr.heap.size s [] (wr.setCell ⟨N, 3, none⟩ (.int .i64 lv)) l wy none 0 0 := by
  obtain ⟨r1, r2, r3⟩ := own_rd H.own
  have hs := H.sz
  have hln := H.ln
  have t3 : Tch (fun k => k = N) wr (wr.setCell ⟨N, 3, none⟩ (.int .i64 lv)) := Tch.setCell (S := fun k => k = N) (Tch.refl _ _) rfl _ _
  have e := H.nd.set_ 3 (.int .i64 lv)
  refine ⟨H.iv, H.ig.tch t3 (by omega), H.ir.tch t3 (by omega), H.inn.tch t3 (by omega), by simpa [IS.v] using e, ?_, ⟨hs, t3.size⟩, World.ownsRow_nil _ _ _ _, rfl, fun l hl => (by cases hl), H.bel.trans (t3.below H.bel.size fun k hk => by omega), hln⟩
  refine IS.AtS.tch ⟨r1, hn, ?_, H.wf⟩ t3 fun k hk => ⟨hk.2, by omega⟩
  exact r3.mono fun k hk => ⟨hk.1, hk.2.1⟩
theorem NlS.push (H : NlS w N id tg lv vec B3 s ls wr l wy A n c) {A' : Option Addr} {m d B4 : Nat} (hB4 : ∀ k, (Value.slice A n c).ownBlock = some k → k < B4) (hB3 : B3 ≤ B4)
    (hl : wr.ownsRow B4 3 1 (.slice A' m d) m (xs.map (.int .i64))) (hm : m ≤ 1048576) (hw : ∀ x ∈ xs, (Lit.int .i64 x).wf = true)
    (hgr : wr.grownBy W5 (Value.slice A n c).ownBlock) (hat : (Value.slice A n c).ownBlock = some b ∨ wr.heap.size ≤ b)
    (ho : W5.ownsRow B3 43 1 (.slice (some ⟨b, 0, none⟩) (n + 1) c') (n + 1) (ls.map IS.v ++ #[.slice A' m d].toList)) :
    NlS w N id tg lv vec B3 s (ls ++ [⟨A', m, d, xs⟩]) (W5.setCell ⟨N, 4, none⟩ (.slice (some ⟨b, 0, none⟩) (n + 1) c')) l wy (some ⟨b, 0, none⟩) (n + 1) c' := by
  obtain ⟨r1, r2, r3⟩ := own_rd hl
  have hb3 := H.b3
  have hln := H.ln
  have hb : B3 ≤ b := by
    rcases hat with h | h
    · exact (H.own.lt b h).1
    · omega
  have ht := grownBy_tchJ hgr
  have hk : ∀ k, some k = (Value.slice A n c).ownBlock → B3 ≤ k := fun k h => (H.own.lt k h.symm).1
  obtain ⟨V, hV⟩ : ∃ V, W5.setCell ⟨N, 4, none⟩ (.slice (some ⟨b, 0, none⟩) (n + 1) c') = V := ⟨_, rfl⟩
  have t2 : Tch (fun k => k = N ∨ some k = (Value.slice A n c).ownBlock) wr V := by rw [← hV]; exact (ht.mono fun k _ h => .inr h).setCell (.inl rfl) _ _
  have t3 : Tch (fun k => k = N) W5 V := by rw [← hV]; exact Tch.setCell (S := fun k => k = N) (Tch.refl _ _) rfl _ _
  have e := (H.nd.tch ht fun h => by have := hk _ h; omega).set_ 4 (.slice (some ⟨b, 0, none⟩) (n + 1) c')
  have hno : ∀ k, k < B3 → k ≠ N → ¬ (k = N ∨ some k = (Value.slice A n c).ownBlock) := fun k h1 h2 h => by
    rcases h with h | h
    · exact h2 h
    · have := hk k h; omega
  have hbk : ∀ k, k < wr.heap.size → (Value.slice A n c).ownBlock ≠ some k → b ≠ k := fun k h1 h2 h => by
    subst h
    rcases hat with h | h
    · exact h2 h
    · omega
  rw [hV] at e ⊢
  refine ⟨H.iv, H.ig.tch t2 (hno _ (by omega) (by omega)), H.ir.tch t2 (hno _ (by omega) (by omega)), H.inn.tch t2 (hno _ (by omega) (by omega)), by simpa using e, H.vec.tch t2 fun k h => ⟨by omega, hno _ (by omega) (by omega)⟩, ⟨hb3.1, by have := t2.size; omega⟩, ?_, by rw [List.length_append, H.len]; rfl, ?_, H.bel.trans (t2.below H.bel.size fun k h => ?_), hln⟩
  · rw [List.map_append]
    exact ownsRow_tchJ ho t3 fun k h => by
      have : b = k := by injection h
      omega
  · intro l hml
    rcases List.mem_append.1 hml with h | h
    · refine ⟨((H.lss l h).1.tch t2 fun k hk => ⟨hk.2.1, ?_⟩).mono fun k hk => ⟨hk.1, by have := t2.size; omega, fun e => hbk k hk.2.1 hk.2.2 (by injection e)⟩, (H.lss l h).2⟩
      rintro (h1 | h1)
      · omega
      · exact hk.2.2 h1.symm
    · obtain rfl := List.mem_singleton.1 h
      have hq : ∀ k, B4 ≤ k → (Value.slice A n c).ownBlock ≠ some k := fun k hk e => by have := hB4 k e; omega
      refine ⟨IS.AtS.mono (IS.AtS.tch (S := fun k => B4 ≤ k ∧ k < wr.heap.size) ⟨r1, hm, r3.mono fun k hk => ⟨hk.1, hk.2.1⟩, hw⟩ t2 fun k hk => ⟨hk.2, ?_⟩) fun k hk => ⟨by omega, by have := t2.size; omega, fun e => hbk k hk.2 (hq k hk.1) (by injection e)⟩, r2⟩
      rintro (h1 | h1)
      · omega
      · exact hq k hk.1 h1.symm
  · rcases h with h | h
    · omega
    · have := hk k h; omega
theorem NlS.fin (H : NlS w N id tg lv vec B3 s ls wr l wy A n c) (hn : n ≤ 1048576) (nx pv : Int) (hid : (Lit.int .u64 id).wf = true) (htg : (Lit.int .u64 tg).wf = true) (hlv : (Lit.int .i64 lv).wf = true) (hnx : (Lit.int .i64 nx).wf = true) (hpv : (Lit.int .i64 pv).wf = true) :
    NlS w N id tg lv vec B3 s ls wr l wy A n c ∧ AtN wr (fun k => N + 1 ≤ k ∧ k < wr.heap.size) ⟨id, vec, tg, lv, A, n, c, ls, nx, pv⟩ := by
  have hb3 := H.b3
  obtain ⟨r1, r2, r3⟩ := own_rd H.own
  refine ⟨H, ⟨⟨H.vec.mono fun k hk => ⟨hk.1, by omega⟩, r1, hn, H.len, fun l hl => (H.lss l hl).1.mono fun k hk => ⟨by omega, hk.2.1⟩, hid, hlv, hnx, hpv, fun l hl => (H.lss l hl).2⟩, r3.mono fun k hk => ⟨by omega, hk.2.1⟩, htg⟩⟩
end
/-- Two structs, returned. -/
theorem results_rows {P : Program} {fn : Func} {p q : Tmp} {t1 t2 : TypeId} (h : fn.results = #[.cell p t1, .cell q t2]) (tmps : Array Value) {w : World} {g1 g2 : Nat} {c1 c2 : Array Value} {d1 d2 : TypeDesc}
    (hp : tmps.getD p undef = .pointer (some ⟨g1, 0, none⟩)) (hq : tmps.getD q undef = .pointer (some ⟨g2, 0, none⟩)) {u1 u2 : Nat} (b1 : Blk w g1 u1 c1) (b2 : Blk w g2 u2 c2)
    (hu1 : P.underlying t1 = some d1) (hd1 : (match d1 with | .struct _ | .array _ _ => true | _ => false) = true) (hi1 : (P.info? t1).map (·.size) = some c1.size)
    (hu2 : P.underlying t2 = some d2) (hd2 : (match d2 with | .struct _ | .array _ _ => true | _ => false) = true) (hi2 : (P.info? t2).map (·.size) = some c2.size) :
    (results fn tmps).run P w = .ok (.tuple #[.agg c1, .agg c2]) w := by
  have hp' : tmps[p]?.getD undef = .pointer (some ⟨g1, 0, none⟩) := by simpa using hp
  have hq' : tmps[q]?.getD undef = .pointer (some ⟨g2, 0, none⟩) := by simpa using hq
  simp [results, h, hp', hq', asAddr, run_loadVar_row w g1 u1 t1 c1 (0, 0) d1 b1 hu1 hd1 hi1, run_loadVar_row w g2 u2 t2 c2 (0, 0) d2 b2 hu2 hd2 hi2, Result.andThen]
def RetNd (r : RS × ND) (w : World) (e : Ending) (w' : World) : Prop :=
  ∃ l wy d, e = .returned (.tuple #[.agg #[.string (strOfNums l), .int .i64 wy, .int .i64 r.1.e], .agg d.cells]) ∧ IvT r.1 l wy ∧ AtN w' (fun k => w.heap.size ≤ k ∧ k < w'.heap.size) d ∧ d.norm = r.2 ∧ Below w.heap.size w w'
theorem pack_zagD (m : Nat) (hm : m ≤ 4294967295) (w : World) : Calls Try.prog 54 #[.int .u64 (m : Nat)] w fun e w' => e = .returned (.int .i64 (zagF m)) ∧ w = w' := ref_zag m (by omega) w
theorem takeR_val {s s' : RS} {lo hi v : Nat} (he : takeR s lo hi = (s', v)) (h : s'.e ≠ 0) : v = 0 := by
  unfold takeR at he
  split at he
  · split at he
    · split at he
      · injection he with _ h2; exact h2.symm
      · injection he with h1 h2
        rw [← h1] at h
        exact absurd rfl h
    · injection he with _ h2; exact h2.symm
  · injection he with _ h2; exact h2.symm
/-- Ahead of the node. -/
structure NbS (w : World) (s : RS) (wr : World) (l : List Int) (wy : Int) : Prop where
  iv : IvT s l wy
  ig : Blk wr w.heap.size 73 #[.string (strOfNums l), .int .i64 wy, .int .i64 s.e]
  ir : Blk wr (w.heap.size + 1) 73 #[.string ⟨#[]⟩, .int .i64 0, .int .i64 0]
  inn : Blk wr (w.heap.size + 2) 42 nzL
  k8 : Blk wr (w.heap.size + 3) 42 ndX.cells
  bel : Below w.heap.size w wr
theorem NbS.put {w wr w' : World} {s s' : RS} {l l' : List Int} {wy wy' : Int} (H : NbS w s wr l wy) (ht : Tch (fun k => k = w.heap.size) wr w') (hb : Blk w' w.heap.size 73 #[.string (strOfNums l'), .int .i64 wy', .int .i64 s'.e]) (hi : IvT s' l' wy') : NbS w s' w' l' wy' :=
  ⟨hi, hb, H.ir.tch ht (by omega), H.inn.tch ht (by omega), H.k8.tch ht (by omega), H.bel.trans (ht.below H.bel.size fun k hk => by omega)⟩
theorem NbS.below {w wr w' : World} {s : RS} {l : List Int} {wy : Int} (H : NbS w s wr l wy) (hb : Below wr.heap.size wr w') : NbS w s w' l wy := H.put (Tch.of_below hb) (H.ig.below hb H.ig.lt) H.iv
theorem NbS.begin {w : World} {s : RS} {l : List Int} {wy : Int} (h : IvT s l wy) {w1 w2 w3 w4 : World} (h1 : w.alloc (.cells #[.string (strOfNums l), .int .i64 wy, .int .i64 s.e] 73) = w1) (h2 : w1.alloc (.cells #[.string ⟨#[]⟩, .int .i64 0, .int .i64 0] 73) = w2)
    (h3 : w2.alloc (.cells nzL 42) = w3) (h4 : w3.alloc (.cells ndX.cells 42) = w4) : w1.heap.size = w.heap.size + 1 ∧ w2.heap.size = w.heap.size + 2 ∧ w3.heap.size = w.heap.size + 3 ∧ NbS w s w4 l wy := by
  have s1 : w1.heap.size = w.heap.size + 1 := by rw [← h1]; simp only [World.alloc, Array.size_push]
  have s2 : w2.heap.size = w.heap.size + 2 := by rw [← h2]; simp only [World.alloc, Array.size_push]; omega
  have s3 : w3.heap.size = w.heap.size + 3 := by rw [← h3]; simp only [World.alloc, Array.size_push]; omega
  have k1 : Blk w1 w.heap.size 73 #[.string (strOfNums l), .int .i64 wy, .int .i64 s.e] := by rw [← h1]; exact Blk.new _ _ _
  have k2 : Blk w2 (w.heap.size + 1) 73 #[.string ⟨#[]⟩, .int .i64 0, .int .i64 0] := by rw [← h2, ← s1]; exact Blk.new _ _ _
  have k3 : Blk w3 (w.heap.size + 2) 42 nzL := by rw [← h3, ← s2]; exact Blk.new _ _ _
  have k4 : Blk w4 (w.heap.size + 3) 42 ndX.cells := by rw [← h4, ← s3]; exact Blk.new _ _ _
  have b2 : Below w1.heap.size w1 w2 := by rw [← h2]; exact (Below.refl _ _).alloc (Nat.le_refl _) _
  have b3 : Below w2.heap.size w2 w3 := by rw [← h3]; exact (Below.refl _ _).alloc (Nat.le_refl _) _
  have b4 : Below w3.heap.size w3 w4 := by rw [← h4]; exact (Below.refl _ _).alloc (Nat.le_refl _) _
  have b1 : Below w.heap.size w w1 := by rw [← h1]; exact (Below.refl _ _).alloc (Nat.le_refl _) _
  exact ⟨s1, s2, s3, h, ((k1.below b2 (by omega)).below b3 (by omega)).below b4 (by omega), (k2.below b3 (by omega)).below b4 (by omega), k3.below b4 (by omega), k4, ((b1.trans (b2.mono (by omega))).trans (b3.mono (by omega))).trans (b4.mono (by omega))⟩
theorem NvS.begin {w wr w' : World} {s : RS} {l : List Int} {wy : Int} (H : NbS w s wr l wy) (h : wr.alloc (.cells nzL 42) = w') : NvS w wr.heap.size 0 0 s [] w' l wy none 0 0 := by
  have b : Below wr.heap.size wr w' := by rw [← h]; exact (Below.refl _ _).alloc (Nat.le_refl _) _
  have H' := H.below b
  have hl := H.k8.lt
  exact ⟨H'.iv, H'.ig, H'.ir, H'.inn, by rw [← h]; exact Blk.new _ _ _, World.ownsRow_nil _ _ _ _, rfl, fun x hx => (by cases hx), H'.bel, by omega⟩
set_option maxRecDepth 100000 in
set_option maxHeartbeats 16000000 in
theorem rf_readNode {s : RS} {l : List Int} {wy : Int} (h : IvT s l wy) (lk nn : Nat) (h1 : 1 ≤ nn) (h2 : nn ≤ 4097) (w : World) :
    Calls Try.prog 31 #[.agg #[.string (strOfNums l), .int .i64 wy, .int .i64 s.e], .int .i64 (lk : Nat), .int .i64 (nn : Nat)] w (RetNd (nodR lk nn s) w) := by
  obtain ⟨w1, hw1⟩ : ∃ x, w.alloc (.cells #[.string (strOfNums l), .int .i64 wy, .int .i64 s.e] 73) = x := ⟨_, rfl⟩
  obtain ⟨w2, hw2⟩ : ∃ x, w1.alloc (.cells #[.string ⟨#[]⟩, .int .i64 0, .int .i64 0] 73) = x := ⟨_, rfl⟩
  obtain ⟨w3, hw3⟩ : ∃ x, w2.alloc (.cells nzL 42) = x := ⟨_, rfl⟩
  obtain ⟨w4, hw4⟩ : ∃ x, w3.alloc (.cells ndX.cells 42) = x := ⟨_, rfl⟩
  obtain ⟨z1, z2, z3, hbs⟩ := NbS.begin h hw1 hw2 hw3 hw4
  have HB2 := Lib.hid hbs
  obtain ⟨s1, c1, e1⟩ : ∃ a b, takeR s 0 1 = (a, b) := ⟨_, _, rfl⟩
  have E1 := Lib.hid e1
  unfold nzL at hw3
  unfold ndX ND.cells isN IS.v at hw4
  simp only [List.length_nil] at hw4
  by_cases hc : c1 = 0
  · subst hc
    have HN : Hid (nodR lk nn s = (s1, ndX)) := by show _ = _; unfold nodR; rw [E1.out, if_pos rfl]
    clear e1 h hbs
    go_enter Try.func31, Try.ntmps31
    go_upto_region 1 with fail
    (try rw [hw1])
    (try rw [hw2])
    (try rw [hw3])
    (try rw [z1])
    (try rw [z2])
    clear hw1 hw2 hw3 z1 z2
    go_upto_region 2 with fail
    (try rw [hw4])
    (try rw [z3])
    clear hw4 z3
    have LP2 := load_I HB2.out.ig
    go_upto_region 3 with (first
      | refine wpList_loadT LP2 (by rfl) ?_
      | (go_at_call 30; (with_reducible refine (rf_takeE HB2.out.iv 0 1 E1.out (lo' := 0) rfl (hi' := 1) rfl _).mono ?_); rintro e Wa2 ⟨la2, wa2, rfl, hti2, htb2⟩; have HA2 := Lib.hid (HB2.out.below htb2); obtain ⟨Wb2, SR2, kb2, tb2⟩ := store_I (l := la2) (wy := wa2) (e := s1.e) HA2.out.ig rfl; have HB3 := Lib.hid (HA2.out.put tb2 kb2 hti2); clear hti2 htb2 tb2 kb2 HA2)
      | refine wpList_storeE SR2 _ _ rfl rfl rfl rfl ?_)
    clear LP2 SR2 HB2
    have c2 : Wb2.cell? ⟨w.heap.size, 2, none⟩ = some (.int .i64 s1.e) := HB3.out.ig.cell 2
    have KG := Lib.hid HB3.out.ig
    have KN := Lib.hid HB3.out.k8
    have KR := Lib.hid HB3.out.ir
    have KI := Lib.hid HB3.out.inn
    have HBV := Lib.hid HB3.out.bel
    have HIV := Lib.hid HB3.out.iv
    have HAT : Hid (AtN Wb2 (fun k => w.heap.size + 3 + 1 ≤ k ∧ k < Wb2.heap.size) ndX) := ⟨⟨⟨fun _ => ⟨rfl, rfl⟩, Nat.zero_le _, ⟨rfl, fun h => absurd h (by decide)⟩, (fun x hx => by cases hx)⟩, fun _ => ⟨rfl, rfl⟩, Nat.zero_le _, rfl, (fun l hl => by cases hl), rfl, rfl, rfl, rfl, (fun l hl => by cases hl)⟩, ⟨rfl, fun h => absurd h (by decide)⟩, rfl⟩
    have HLN : Hid (w.heap.size + 2 < w.heap.size + 3) := by show _ < _; omega
    clear HB3 E1
    by_cases he : s1.e = 0
    · have hvb : (s1.e != 0) = false := by simpa using he
      clear he
      go_upto_region 4 with fail
      refine wp_region_held_drew (S := fun V' => Blk V' w.heap.size 73 #[.string (strOfNums la2), .int .i64 wa2, .int .i64 s1.e] ∧ Blk V' (w.heap.size + 3) 42 ndX.cells) (by kernel_rfl) ⟨KG.out.drewN 1, KN.out.drewN 1⟩ (fun hH => ?_)
      obtain ⟨U, hU⟩ : ∃ x, Wb2.drew = x := ⟨_, rfl⟩
      have bU : Below Wb2.heap.size Wb2 U := by rw [← hU]; exact below_drewN (Below.refl _ Wb2) 1
      have KRU := KR.out.below bU KR.out.lt
      have KIU := KI.out.below bU KI.out.lt
      rw [hU] at hH ⊢
      clear hU
      obtain ⟨U1, SR1, k1, t1⟩ := store_I (l := la2) (wy := wa2) (e := s1.e) KRU rfl
      have hln9 := HLN.out
      have hH1 : Blk U1 w.heap.size 73 #[.string (strOfNums la2), .int .i64 wa2, .int .i64 s1.e] ∧ Blk U1 (w.heap.size + 3) 42 ndX.cells := ⟨hH.1.tch t1 (by omega), hH.2.tch t1 (by omega)⟩
      have KI1 := KIU.tch t1 (by omega)
      have SR2 := row_store KI1 ndX.cells rfl nodeTK (nz_cells _)
      obtain ⟨U2, hU2⟩ : ∃ x, U1.setCells (w.heap.size + 2) 0 ndX.cells.toList = x := ⟨_, rfl⟩
      have t2 : Tch (fun k => k = w.heap.size + 2) U1 U2 := by rw [← hU2]; exact Tch.setCells (S := fun k => k = w.heap.size + 2) rfl _ _ _ (Tch.refl _ _)
      have KI2 : Hid (Blk U2 (w.heap.size + 2) 42 ndX.cells) := by show Blk _ _ _ _; rw [← hU2]; exact KI1.put _ rfl
      have KR2 := Lib.hid (k1.tch t2 (by omega))
      have hH2 : Blk U2 w.heap.size 73 #[.string (strOfNums la2), .int .i64 wa2, .int .i64 s1.e] ∧ Blk U2 (w.heap.size + 3) 42 ndX.cells := ⟨hH1.1.tch t2 (by omega), hH1.2.tch t2 (by omega)⟩
      rw [hU2] at SR2
      have t12 : Tch (fun k => k = w.heap.size + 1 ∨ k = w.heap.size + 2) U U2 := (t1.mono fun k _ h => .inl h).trans t2 fun k h => .inl (.inr h)
      have HBE : Hid (Below w.heap.size w U2) := (HBV.out.trans (bU.mono HBV.out.size)).trans (t12.below (Nat.le_trans HBV.out.size bU.size) fun k hk => by omega)
      have hat9 : AtN U2 (fun k => w.heap.size ≤ k ∧ k < U2.heap.size) ndX := (((HAT.out.tch (Tch.of_below (S := fun _ => False) bU) fun k hk => ⟨hk.2, fun h => h⟩).tch t12 fun k hk => ⟨by have := bU.size; omega, by omega⟩)).mono fun k hk => ⟨by omega, by have := bU.size; have := t12.size; omega⟩
      clear hU2 t1 t2 t12 k1 KI1 KRU KIU bU
      refine wpAnyH_take (i := 0) (v := .agg #[.string (strOfNums la2), .int .i64 wa2, .int .i64 s1.e]) rfl (by kernel_rfl) (by kernel_rfl) (by kernel_rfl) (fun _ _ _ h => h) (yieldsIf_loadP (by rfl) _ rfl rfl (fun _ q => load_I q.1)) hH ?_
      (try simp only [List.getElem_toArray, List.getElem_cons_zero, Act.put, List.setIfInBounds_toArray, List.set_cons_zero, List.set_cons_succ])
      refine wpAnyH_take (i := 1) (v := .agg ndX.cells) rfl (by kernel_rfl) (by kernel_rfl) (by kernel_rfl) (fun _ _ _ h => h) (yieldsIf_loadP (by rfl) _ rfl rfl (fun _ q => node_loadK q.2)) hH ?_
      (try simp only [List.getElem_toArray, List.getElem_cons_zero, List.getElem_cons_succ, Act.put, List.setIfInBounds_toArray, List.set_cons_zero, List.set_cons_succ])
      refine wpAnyH_store 2 _ _ _ (by kernel_rfl) (by rfl) (by kernel_rfl) (by rfl) (by rfl) (by rfl) SR1 hH1 ?_
      (try simp only [List.getElem_toArray, List.getElem_cons_zero, List.getElem_cons_succ, Act.put])
      refine wpAnyH_store 3 _ _ _ (by kernel_rfl) (by rfl) (by kernel_rfl) (by rfl) (by rfl) (by rfl) SR2 hH2 ?_
      (try simp only [List.getElem_toArray, List.getElem_cons_zero, List.getElem_cons_succ, Act.put])
      refine wpAnyH_done (by kernel_rfl) ?_ _
      clear SR1 SR2 hH hH1 hH2
      go_wp2_with fail
      refine bodyPost_ret (v := .tuple #[.agg #[.string (strOfNums la2), .int .i64 wa2, .int .i64 s1.e], .agg ndX.cells]) (results_rows Try.results31 _ rfl rfl KR2.out KI2.out Try.underlying73 rfl tyI Try.underlying42 rfl nodeTK) rfl (by rw [HN.out]; exact ⟨la2, wa2, ndX, rfl, HIV.out, hat9, rfl, HBE.out⟩)
    · have hvb : (s1.e != 0) = true := by simpa using he
      clear he
      go_upto_region 4 with fail
      refine wp_region_held_drew (S := fun V' => Blk V' w.heap.size 73 #[.string (strOfNums la2), .int .i64 wa2, .int .i64 s1.e] ∧ Blk V' (w.heap.size + 3) 42 ndX.cells) (by kernel_rfl) ⟨KG.out.drewN 1, KN.out.drewN 1⟩ (fun hH => ?_)
      obtain ⟨U, hU⟩ : ∃ x, Wb2.drew = x := ⟨_, rfl⟩
      have bU : Below Wb2.heap.size Wb2 U := by rw [← hU]; exact below_drewN (Below.refl _ Wb2) 1
      have KRU := KR.out.below bU KR.out.lt
      have KIU := KI.out.below bU KI.out.lt
      rw [hU] at hH ⊢
      clear hU
      obtain ⟨U1, SR1, k1, t1⟩ := store_I (l := la2) (wy := wa2) (e := s1.e) KRU rfl
      have hln9 := HLN.out
      have hH1 : Blk U1 w.heap.size 73 #[.string (strOfNums la2), .int .i64 wa2, .int .i64 s1.e] ∧ Blk U1 (w.heap.size + 3) 42 ndX.cells := ⟨hH.1.tch t1 (by omega), hH.2.tch t1 (by omega)⟩
      have KI1 := KIU.tch t1 (by omega)
      have SR2 := row_store KI1 ndX.cells rfl nodeTK (nz_cells _)
      obtain ⟨U2, hU2⟩ : ∃ x, U1.setCells (w.heap.size + 2) 0 ndX.cells.toList = x := ⟨_, rfl⟩
      have t2 : Tch (fun k => k = w.heap.size + 2) U1 U2 := by rw [← hU2]; exact Tch.setCells (S := fun k => k = w.heap.size + 2) rfl _ _ _ (Tch.refl _ _)
      have KI2 : Hid (Blk U2 (w.heap.size + 2) 42 ndX.cells) := by show Blk _ _ _ _; rw [← hU2]; exact KI1.put _ rfl
      have KR2 := Lib.hid (k1.tch t2 (by omega))
      have hH2 : Blk U2 w.heap.size 73 #[.string (strOfNums la2), .int .i64 wa2, .int .i64 s1.e] ∧ Blk U2 (w.heap.size + 3) 42 ndX.cells := ⟨hH1.1.tch t2 (by omega), hH1.2.tch t2 (by omega)⟩
      rw [hU2] at SR2
      have t12 : Tch (fun k => k = w.heap.size + 1 ∨ k = w.heap.size + 2) U U2 := (t1.mono fun k _ h => .inl h).trans t2 fun k h => .inl (.inr h)
      have HBE : Hid (Below w.heap.size w U2) := (HBV.out.trans (bU.mono HBV.out.size)).trans (t12.below (Nat.le_trans HBV.out.size bU.size) fun k hk => by omega)
      have hat9 : AtN U2 (fun k => w.heap.size ≤ k ∧ k < U2.heap.size) ndX := (((HAT.out.tch (Tch.of_below (S := fun _ => False) bU) fun k hk => ⟨hk.2, fun h => h⟩).tch t12 fun k hk => ⟨by have := bU.size; omega, by omega⟩)).mono fun k hk => ⟨by omega, by have := bU.size; have := t12.size; omega⟩
      clear hU2 t1 t2 t12 k1 KI1 KRU KIU bU
      refine wpAnyH_take (i := 0) (v := .agg #[.string (strOfNums la2), .int .i64 wa2, .int .i64 s1.e]) rfl (by kernel_rfl) (by kernel_rfl) (by kernel_rfl) (fun _ _ _ h => h) (yieldsIf_loadP (by rfl) _ rfl rfl (fun _ q => load_I q.1)) hH ?_
      (try simp only [List.getElem_toArray, List.getElem_cons_zero, Act.put, List.setIfInBounds_toArray, List.set_cons_zero, List.set_cons_succ])
      refine wpAnyH_take (i := 1) (v := .agg ndX.cells) rfl (by kernel_rfl) (by kernel_rfl) (by kernel_rfl) (fun _ _ _ h => h) (yieldsIf_loadP (by rfl) _ rfl rfl (fun _ q => node_loadK q.2)) hH ?_
      (try simp only [List.getElem_toArray, List.getElem_cons_zero, List.getElem_cons_succ, Act.put, List.setIfInBounds_toArray, List.set_cons_zero, List.set_cons_succ])
      refine wpAnyH_store 2 _ _ _ (by kernel_rfl) (by rfl) (by kernel_rfl) (by rfl) (by rfl) (by rfl) SR1 hH1 ?_
      (try simp only [List.getElem_toArray, List.getElem_cons_zero, List.getElem_cons_succ, Act.put])
      refine wpAnyH_store 3 _ _ _ (by kernel_rfl) (by rfl) (by kernel_rfl) (by rfl) (by rfl) (by rfl) SR2 hH2 ?_
      (try simp only [List.getElem_toArray, List.getElem_cons_zero, List.getElem_cons_succ, Act.put])
      refine wpAnyH_done (by kernel_rfl) ?_ _
      clear SR1 SR2 hH hH1 hH2
      go_wp2_with fail
      refine bodyPost_ret (v := .tuple #[.agg #[.string (strOfNums la2), .int .i64 wa2, .int .i64 s1.e], .agg ndX.cells]) (results_rows Try.results31 _ rfl rfl KR2.out KI2.out Try.underlying73 rfl tyI Try.underlying42 rfl nodeTK) rfl (by rw [HN.out]; exact ⟨la2, wa2, ndX, rfl, HIV.out, hat9, rfl, HBE.out⟩)
  have hse : s1.e = 0 := by
    by_cases h0 : s1.e = 0
    · exact h0
    · exact absurd (takeR_val e1 h0) hc
  obtain ⟨s2, id, e2⟩ : ∃ a b, takeR s1 0 18446744073709551615 = (a, b) := ⟨_, _, rfl⟩
  obtain ⟨s3, tg, e3⟩ : ∃ a b, takeR s2 0 18446744073709551615 = (a, b) := ⟨_, _, rfl⟩
  obtain ⟨s4, dm, e4⟩ : ∃ a b, takeR s3 0 4096 = (a, b) := ⟨_, _, rfl⟩
  obtain ⟨s5, vx, e5⟩ : ∃ a b, vecR dm s4 [] = (a, b) := ⟨_, _, rfl⟩
  obtain ⟨s6, hl, e6⟩ : ∃ a b, takeR s5 0 7 = (a, b) := ⟨_, _, rfl⟩
  obtain ⟨s7, lx, e7⟩ : ∃ a b, lssR lk nn (hl + 1) 0 s6 [] = (a, b) := ⟨_, _, rfl⟩
  obtain ⟨nm, hnm⟩ : ∃ k, nn - 1 = k := ⟨_, rfl⟩
  obtain ⟨s8, nx, e8⟩ : ∃ a b, takeR s7 0 nm = (a, b) := ⟨_, _, rfl⟩
  obtain ⟨s9, pv, e9⟩ : ∃ a b, takeR s8 0 nm = (a, b) := ⟨_, _, rfl⟩
  have HN : Hid (nodR lk nn s = (s9, ndC id tg vx hl lx nx pv)) := by
    show _ = _
    unfold nodR
    rw [E1.out, if_neg hc]
    unfold nd1R
    simp only [e2, e3, e4, e5, e6, e7, hnm, e8, e9]
  have hcb : ((c1 : Int) == 0) = false := by simp; omega
  have hvb1 : (s1.e != 0) = false := by simpa using hse
  have E2 := Lib.hid e2
  have E3 := Lib.hid e3
  have E4 := Lib.hid e4
  have E5 := Lib.hid e5
  have E6 := Lib.hid e6
  have E7 := Lib.hid e7
  have E8 := Lib.hid e8
  have E9 := Lib.hid e9
  have HID : Hid (id ≤ 18446744073709551615) := take_le e2
  have HTG : Hid (tg ≤ 18446744073709551615) := take_le e3
  have HDM : Hid (dm ≤ 4096) := take_le e4
  have HHL : Hid (hl ≤ 7) := take_le e6
  have HNX : Hid (nx ≤ nm) := take_le e8
  have HPV : Hid (pv ≤ nm) := take_le e9
  have HNN : Hid (1 ≤ nn ∧ nn ≤ 4097) := ⟨h1, h2⟩
  have hnn : (nn : Int) - 1 = (nm : Int) := by omega
  have hnmb : nm ≤ 4096 := by omega
  have hnxb := HNX.out
  have hpvb := HPV.out
  clear e1 e2 e3 e4 e5 e6 e7 e8 e9 h1 h2 hc hse hnm h hbs
  go_enter Try.func31, Try.ntmps31
  go_upto_region 1 with fail
  (try rw [hw1])
  (try rw [hw2])
  (try rw [hw3])
  (try rw [z1])
  (try rw [z2])
  clear hw1 hw2 hw3 z1 z2
  go_upto_region 2 with fail
  (try rw [hw4])
  (try rw [z3])
  clear hw4 z3
  have LP2 := load_I HB2.out.ig
  go_upto_region 3 with (first
    | refine wpList_loadT LP2 (by rfl) ?_
    | (go_at_call 30; (with_reducible refine (rf_takeE HB2.out.iv 0 1 E1.out (lo' := 0) rfl (hi' := 1) rfl _).mono ?_); rintro e Wa2 ⟨la2, wa2, rfl, hti2, htb2⟩; have HA2 := Lib.hid (HB2.out.below htb2); obtain ⟨Wb2, SR2, kb2, tb2⟩ := store_I (l := la2) (wy := wa2) (e := s1.e) HA2.out.ig rfl; have HB3 := Lib.hid (HA2.out.put tb2 kb2 hti2); clear hti2 htb2 tb2 kb2 HA2)
    | refine wpList_storeE SR2 _ _ rfl rfl rfl rfl ?_)
  clear LP2 SR2 HB2
  have c2 : Wb2.cell? ⟨w.heap.size, 2, none⟩ = some (.int .i64 s1.e) := HB3.out.ig.cell 2
  go_upto_region 6 with fail
  obtain ⟨N, hN⟩ : ∃ x, Wb2.heap.size = x := ⟨_, rfl⟩
  obtain ⟨w5, hw5⟩ : ∃ x, Wb2.alloc (.cells #[.int .u64 0, .slice none 0 0, .int .u64 0, .int .i64 0, .slice none 0 0, .int .i64 0, .int .i64 0] 42) = x := ⟨_, rfl⟩
  have hv5 := NvS.begin HB3.out hw5
  rw [hN] at hv5
  have HV5 := Lib.hid hv5
  rw [hw5, hN]
  clear hw5 hN hv5 HB3 c2 E1 hcb hvb1
  have LP6 := load_I HV5.out.ig
  go_upto_region 7 with (first
    | refine wpList_loadT LP6 (by rfl) ?_
    | (go_at_call 30; (with_reducible refine (rf_takeE HV5.out.iv 0 18446744073709551615 E2.out (lo' := 0) rfl (hi' := 18446744073709551615) rfl _).mono ?_); rintro e Wa6 ⟨la6, wa6, rfl, hti6, htb6⟩; have HA6 := Lib.hid (HV5.out.below htb6); obtain ⟨Wb6, SR6, kb6, tb6⟩ := store_I (l := la6) (wy := wa6) (e := s2.e) HA6.out.ig rfl; have HV6 := Lib.hid (HA6.out.put tb6 kb6 hti6); clear hti6 htb6 tb6 kb6 HA6)
    | refine wpList_storeE SR6 _ _ rfl rfl rfl rfl ?_)
  clear LP6 SR6 HV5
  have LP7 := load_I HV6.out.ig
  go_upto_region 8 with (first
    | refine wpList_loadT LP7 (by rfl) ?_
    | (go_at_call 30; (with_reducible refine (rf_takeE HV6.out.iv 0 18446744073709551615 E3.out (lo' := 0) rfl (hi' := 18446744073709551615) rfl _).mono ?_); rintro e Wa7 ⟨la7, wa7, rfl, hti7, htb7⟩; have HA7 := Lib.hid (HV6.out.below htb7); obtain ⟨Wb7, SR7, kb7, tb7⟩ := store_I (l := la7) (wy := wa7) (e := s3.e) HA7.out.ig rfl; have HV7 := Lib.hid (HA7.out.put tb7 kb7 hti7); clear hti7 htb7 tb7 kb7 HA7)
    | refine wpList_storeE SR7 _ _ rfl rfl rfl rfl ?_)
  clear LP7 SR7 HV6
  have c0 : Wb7.cell? ⟨N, 0, none⟩ = some (.int .u64 0) := HV7.out.nd.cell 0
  have c2 : Wb7.cell? ⟨N, 2, none⟩ = some (.int .u64 0) := HV7.out.nd.cell 2
  have f0 := HV7.out.nd.frozen 0
  have f2 := HV7.out.nd.frozen 2
  go_upto_region 10 with fail
  have hv9 := HV7.out.ids id tg
  obtain ⟨w9, hw9⟩ : ∃ x, (Wb7.setCell ⟨N, 0, none⟩ (.int .u64 (id : Nat))).setCell ⟨N, 2, none⟩ (.int .u64 (tg : Nat)) = x := ⟨_, rfl⟩
  rw [hw9] at hv9
  rw [hw9]
  have HV9 := Lib.hid hv9
  clear hw9 hv9 c0 c2 f0 f2 HV7 E2 E3
  have LP10 := load_I HV9.out.ig
  go_upto_region 11 with (first
    | refine wpList_loadT LP10 (by rfl) ?_
    | (go_at_call 30; (with_reducible refine (rf_takeE HV9.out.iv 0 4096 E4.out (lo' := 0) rfl (hi' := 4096) rfl _).mono ?_); rintro e Wa10 ⟨la10, wa10, rfl, hti10, htb10⟩; have HA10 := Lib.hid (HV9.out.below htb10); obtain ⟨Wb10, SR10, kb10, tb10⟩ := store_I (l := la10) (wy := wa10) (e := s4.e) HA10.out.ig rfl; have HV10 := Lib.hid (HA10.out.put tb10 kb10 hti10); clear hti10 htb10 tb10 kb10 HA10)
    | refine wpList_storeE SR10 _ _ rfl rfl rfl rfl ?_)
  clear LP10 SR10 HV9
  clear E4
  go_upto_block 0 with fail
  go_cut [14, 15, 16] from 59 to 84 (fun _ _ _ wx => ∃ (l' : List Int) (wy' : Int) (A : Option Addr) (n c : Nat), n ≤ 4096 ∧ Hid (NvS w N id tg s5 vx wx l' wy' A n c))
  case first =>
    go_upto_region 12 with fail
    go_loopw [14, 15, 16] (fun s14 _ _ wr => ∃ (j k : Nat) (s' : RS) (xs l' : List Int) (wy' : Int) (A : Option Addr) (n c : Nat), j + k = dm ∧ n ≤ j ∧ s14 = .int .u64 j ∧ Hid (NvS w N id tg s' xs wr l' wy' A n c) ∧ Hid (vecR k s' xs = (s5, vx))) (fun s14 _ _ _ => 4096 - (intOf s14).toNat)
    case atStart => exact ⟨0, dm, s4, [], _, _, none, 0, 0, by omega, Nat.le_refl _, rfl, HV10, E5⟩
    case round =>
      obtain ⟨j, k, s', xs, l', wy', A, n, c, hk, hnj, rfl, hn, hv⟩ := hrel
      have hdm := HDM.out
      clear HV10 E5
      have c2 : wr.cell? ⟨w.heap.size, 2, none⟩ = some (.int .i64 s'.e) := hn.out.ig.cell 2
      by_cases hk0 : k = 0
      · subst hk0
        obtain ⟨rfl, rfl⟩ := vecR_stop hv.out (.inl rfl)
        have hlt : ¬ j < dm := by omega
        clear hv
        go_wp2_with fail
        go_meet
        exact ⟨l', wy', A, n, c, by omega, hn⟩
      · obtain ⟨k, rfl⟩ : ∃ i, k = i + 1 := ⟨k - 1, by omega⟩
        have hlt : j < dm := by omega
        by_cases he : s'.e = 0
        · skip
          have hvb : (s'.e == 0) = true := by simpa using he
          obtain ⟨sa, m, ea⟩ : ∃ a b, takeR s' 0 4294967295 = (a, b) := ⟨_, _, rfl⟩
          have hv2 : Hid (vecR k sa (xs ++ [zagF m]) = (s5, vx)) := by
            have := hv.out
            rw [vecR, if_pos he, ea] at this
            exact this
          have hmb : m ≤ 4294967295 := take_le ea
          have HZB := Lib.hid (zagF_bd hmb)
          have HZ := Lib.hid (fun W => pack_zagD m hmb W)
          obtain ⟨z, hz⟩ : ∃ z, zagF m = z := ⟨_, rfl⟩
          rw [hz] at HZ HZB hv2
          have EA := Lib.hid ea
          have HZW : Hid ((Lit.int .i32 z).wf = true) := by show _ = _; have := HZB.out; exact wf_i32K this
          have LP14 := load_I hn.out.ig
          clear hv he ea hmb hz
          go_upto_region 15 with (first
            | refine wpList_loadT LP14 (by rfl) ?_
            | (go_at_call 30; (with_reducible refine (rf_takeE hn.out.iv 0 4294967295 EA.out (lo' := 0) rfl (hi' := 4294967295) rfl _).mono ?_); rintro e Wa14 ⟨la14, wa14, rfl, hti14, htb14⟩; have HS5 := Lib.hid (hn.out.below htb14); have H5I := Lib.hid hti14; clear hti14 htb14 LP14 c2))
          obtain ⟨W6, hW6⟩ : ∃ q, Wa14.alloc (.cells #[.string (strOfNums la14), .int .i64 wa14, .int .i64 sa.e] 73) = q := ⟨_, rfl⟩
          have k6 : Blk W6 Wa14.heap.size 73 #[.string (strOfNums la14), .int .i64 wa14, .int .i64 sa.e] := by rw [← hW6]; exact Blk.new _ _ _
          have HS6 : Hid (NvS w N id tg s' xs W6 l' wy' A n c) := by show NvS _ _ _ _ _ _ _ _ _ _ _ _; rw [← hW6]; exact HS5.out.below ((Below.refl _ Wa14).alloc (Nat.le_refl _) _)
          have LP15 := load_I k6
          obtain ⟨W7, SR15, k7, t7⟩ := store_I (l := la14) (wy := wa14) (e := sa.e) HS6.out.ig rfl
          have HS7 := Lib.hid (HS6.out.put t7 k7 H5I.out)
          rw [hW6]
          clear hW6 k6 k7 t7 HS5 HS6 H5I hn
          go_upto_region 16 with (first
            | refine wpList_loadT LP15 (by rfl) ?_
            | refine wpList_storeE SR15 _ _ rfl rfl rfl rfl ?_)
          clear LP15 SR15
          refine wp_region_held_drew (S := fun _ => True) (by kernel_rfl) trivial (fun hH => ?_)
          obtain ⟨W8, hW8⟩ : ∃ x, W7.drew = x := ⟨_, rfl⟩
          have HS8 : Hid (NvS w N id tg sa xs W8 la14 wa14 A n c) := by show NvS _ _ _ _ _ _ _ _ _ _ _ _; rw [← hW8]; exact HS7.out.below (below_drewN (Below.refl _ W7) 1)
          rw [hW8]
          clear hW8 hH HS7
          refine wpAnyH_take (i := 0) (v := .pointer (some ⟨N, 0, none⟩)) rfl (by kernel_rfl) (by kernel_rfl) (by kernel_rfl) (fun _ _ _ h => h) (.inl ⟨by rfl, fun _ _ => by kernel_rfl⟩) trivial ?_
          (try simp only [List.getElem_toArray, List.getElem_cons_zero, Act.put, List.setIfInBounds_toArray, List.set_cons_zero, List.set_cons_succ])
          refine wpAnyH_take (i := 1) (v := .pointer (some ⟨N, 1, none⟩)) rfl (by kernel_rfl) (by kernel_rfl) (by kernel_rfl) (fun _ _ _ h => h) (.inl ⟨by rfl, fun _ _ => by kernel_rfl⟩) trivial ?_
          (try simp only [List.getElem_toArray, List.getElem_cons_zero, List.getElem_cons_succ, Act.put, List.setIfInBounds_toArray, List.set_cons_zero, List.set_cons_succ])
          refine wpAnyH_take (i := 3) (v := .int .u64 (m : Nat)) rfl (by kernel_rfl) (by kernel_rfl) (by kernel_rfl) (fun _ _ _ h => h) (.inl ⟨by rfl, fun _ _ => by kernel_rfl⟩) trivial ?_
          (try simp only [List.getElem_toArray, List.getElem_cons_zero, List.getElem_cons_succ, Act.put, List.setIfInBounds_toArray, List.set_cons_zero, List.set_cons_succ])
          refine wpAnyH_all (rs := [2, 4]) (by kernel_rfl) (by simp) (fun i hi => ?_)
          rcases (by simpa using hi : i = 2 ∨ i = 4) with rfl | rfl
          · refine wpOp_value (w' := W8) (.slice A n c) (by rfl) (by kernel_rfl) (exec_load (by rfl) (by rfl) (load_i32s ((HS8.out.nd.cell 1).trans rfl))) ⟨trivial, ?_⟩
            (try simp only [List.getElem_toArray, List.getElem_cons_zero, List.getElem_cons_succ, Act.put, List.setIfInBounds_toArray, List.set_cons_zero, List.set_cons_succ])
            refine wpAnyH_call 4 54 #[.int .u64 (m : Nat)] _ (by kernel_rfl) (by rfl) (by kernel_rfl) (by kernel_rfl) (HZ.out W8) ?_
            rintro e w9 ⟨rfl, rfl⟩
            refine ⟨_, rfl, trivial, ?_⟩
            (try simp only [List.getElem_toArray, List.getElem_cons_zero, List.getElem_cons_succ, Act.put, List.setIfInBounds_toArray, List.set_cons_zero, List.set_cons_succ])
            refine wpAnyH_take (i := 5) (v := .int .i32 z) rfl (by kernel_rfl) (by kernel_rfl) (by kernel_rfl) (fun _ _ _ h => h) (yieldsIf_conv64 HZB.out (by rfl) _ rfl rfl) trivial ?_
            (try simp only [List.getElem_toArray, List.getElem_cons_zero, List.getElem_cons_succ, Act.put, List.setIfInBounds_toArray, List.set_cons_zero, List.set_cons_succ])
            refine wpAnyH_make 6 (.slice (some ⟨W8.heap.size, 0, none⟩) 1 1) (w' := W8.alloc (.cells #[.int .i32 z] 21)) (by kernel_rfl) (by rfl) (by kernel_rfl) (by kernel_rfl) trivial ?_
            (try simp only [List.getElem_toArray, List.getElem_cons_zero, List.getElem_cons_succ, Act.put, List.setIfInBounds_toArray, List.set_cons_zero, List.set_cons_succ])
            refine wpAnyH_pushJ 7 (by kernel_rfl) (by rfl) (.tmp 77) (.tmp 81) 37 21 1 4 _ rfl Try.underlying37 info_int32 rfl (by decide) W8 (N + 1) (.slice A n c) n (xs.map (.int .i32)) #[.int .i32 z] rfl (by kernel_rfl) rfl HS8.out.own rfl rfl (by simp [Value.oneCell']) (by omega) (by decide) HS8.out.sz ?_
            intro b c2 W9 ho hgr hb5 hat
            have HP := HS8.out.push HZW.out hgr hat ho
            have hq9 := HS8.out.nd.tch (grownBy_tchJ hgr) (fun h => by have := (HS8.out.own.lt _ h.symm).1; omega)
            have SR := store_i32s (A := some ⟨b, 0, none⟩) (n := n + 1) (c := c2) ((hq9.cell 1).trans rfl) (hq9.frozen 1) rfl
            obtain ⟨V, hV⟩ : ∃ V, W9.setCell ⟨N, 1, none⟩ (.slice (some ⟨b, 0, none⟩) (n + 1) c2) = V := ⟨_, rfl⟩
            rw [hV] at SR HP
            replace HP := Lib.hid HP
            clear hV ho hgr hb5 hat hq9
            refine ⟨trivial, ?_⟩
            (try simp only [List.getElem_toArray, List.getElem_cons_zero, List.getElem_cons_succ, Act.put, List.setIfInBounds_toArray, List.set_cons_zero, List.set_cons_succ])
            refine wpAnyH_take (i := 8) (v := .pointer (some ⟨N, 0, none⟩)) rfl (by kernel_rfl) (by kernel_rfl) (by kernel_rfl) (fun _ _ _ h => h) (.inl ⟨by rfl, fun _ _ => by kernel_rfl⟩) trivial ?_
            (try simp only [List.getElem_toArray, List.getElem_cons_zero, List.getElem_cons_succ, Act.put, List.setIfInBounds_toArray, List.set_cons_zero, List.set_cons_succ])
            refine wpAnyH_take (i := 9) (v := .pointer (some ⟨N, 1, none⟩)) rfl (by kernel_rfl) (by kernel_rfl) (by kernel_rfl) (fun _ _ _ h => h) (.inl ⟨by rfl, fun _ _ => by kernel_rfl⟩) trivial ?_
            (try simp only [List.getElem_toArray, List.getElem_cons_zero, List.getElem_cons_succ, Act.put, List.setIfInBounds_toArray, List.set_cons_zero, List.set_cons_succ])
            refine wpAnyH_store 10 _ _ _ (by kernel_rfl) (by rfl) (by kernel_rfl) (by rfl) (by rfl) (by rfl) SR trivial ?_
            (try simp only [List.getElem_toArray, List.getElem_cons_zero, List.getElem_cons_succ, Act.put])
            refine wpAnyH_done (by kernel_rfl) ?_ _
            clear SR HS8
            go_wp2_with fail
            go_roundw
            case rel => exact ⟨j + 1, k, sa, _, _, _, _, n + 1, _, by omega, by omega, by go_num, HP, hv2⟩
            case measure => simp [intOf]; omega
          · refine wpOp_call 54 #[.int .u64 (m : Nat)] _ (by rfl) (by kernel_rfl) (by kernel_rfl) (HZ.out W8) ?_
            rintro e w9 ⟨rfl, rfl⟩
            refine ⟨_, rfl, trivial, ?_⟩
            (try simp only [List.getElem_toArray, List.getElem_cons_zero, List.getElem_cons_succ, Act.put, List.setIfInBounds_toArray, List.set_cons_zero, List.set_cons_succ])
            refine wpAnyH_take (i := 5) (v := .int .i32 z) rfl (by kernel_rfl) (by kernel_rfl) (by kernel_rfl) (fun _ _ _ h => h) (yieldsIf_conv64 HZB.out (by rfl) _ rfl rfl) trivial ?_
            (try simp only [List.getElem_toArray, List.getElem_cons_zero, List.getElem_cons_succ, Act.put, List.setIfInBounds_toArray, List.set_cons_zero, List.set_cons_succ])
            refine wpAnyH_all (rs := [2, 6]) (by kernel_rfl) (by simp) (fun i hi => ?_)
            rcases (by simpa using hi : i = 2 ∨ i = 6) with rfl | rfl
            · refine wpOp_value (w' := W8) (.slice A n c) (by rfl) (by kernel_rfl) (exec_load (by rfl) (by rfl) (load_i32s ((HS8.out.nd.cell 1).trans rfl))) ⟨trivial, ?_⟩
              (try simp only [List.getElem_toArray, List.getElem_cons_zero, List.getElem_cons_succ, Act.put, List.setIfInBounds_toArray, List.set_cons_zero, List.set_cons_succ])
              refine wpAnyH_make 6 (.slice (some ⟨W8.heap.size, 0, none⟩) 1 1) (w' := W8.alloc (.cells #[.int .i32 z] 21)) (by kernel_rfl) (by rfl) (by kernel_rfl) (by kernel_rfl) trivial ?_
              (try simp only [List.getElem_toArray, List.getElem_cons_zero, List.getElem_cons_succ, Act.put, List.setIfInBounds_toArray, List.set_cons_zero, List.set_cons_succ])
              refine wpAnyH_pushJ 7 (by kernel_rfl) (by rfl) (.tmp 77) (.tmp 81) 37 21 1 4 _ rfl Try.underlying37 info_int32 rfl (by decide) W8 (N + 1) (.slice A n c) n (xs.map (.int .i32)) #[.int .i32 z] rfl (by kernel_rfl) rfl HS8.out.own rfl rfl (by simp [Value.oneCell']) (by omega) (by decide) HS8.out.sz ?_
              intro b c2 W9 ho hgr hb5 hat
              have HP := HS8.out.push HZW.out hgr hat ho
              have hq9 := HS8.out.nd.tch (grownBy_tchJ hgr) (fun h => by have := (HS8.out.own.lt _ h.symm).1; omega)
              have SR := store_i32s (A := some ⟨b, 0, none⟩) (n := n + 1) (c := c2) ((hq9.cell 1).trans rfl) (hq9.frozen 1) rfl
              obtain ⟨V, hV⟩ : ∃ V, W9.setCell ⟨N, 1, none⟩ (.slice (some ⟨b, 0, none⟩) (n + 1) c2) = V := ⟨_, rfl⟩
              rw [hV] at SR HP
              replace HP := Lib.hid HP
              clear hV ho hgr hb5 hat hq9
              refine ⟨trivial, ?_⟩
              (try simp only [List.getElem_toArray, List.getElem_cons_zero, List.getElem_cons_succ, Act.put, List.setIfInBounds_toArray, List.set_cons_zero, List.set_cons_succ])
              refine wpAnyH_take (i := 8) (v := .pointer (some ⟨N, 0, none⟩)) rfl (by kernel_rfl) (by kernel_rfl) (by kernel_rfl) (fun _ _ _ h => h) (.inl ⟨by rfl, fun _ _ => by kernel_rfl⟩) trivial ?_
              (try simp only [List.getElem_toArray, List.getElem_cons_zero, List.getElem_cons_succ, Act.put, List.setIfInBounds_toArray, List.set_cons_zero, List.set_cons_succ])
              refine wpAnyH_take (i := 9) (v := .pointer (some ⟨N, 1, none⟩)) rfl (by kernel_rfl) (by kernel_rfl) (by kernel_rfl) (fun _ _ _ h => h) (.inl ⟨by rfl, fun _ _ => by kernel_rfl⟩) trivial ?_
              (try simp only [List.getElem_toArray, List.getElem_cons_zero, List.getElem_cons_succ, Act.put, List.setIfInBounds_toArray, List.set_cons_zero, List.set_cons_succ])
              refine wpAnyH_store 10 _ _ _ (by kernel_rfl) (by rfl) (by kernel_rfl) (by rfl) (by rfl) (by rfl) SR trivial ?_
              (try simp only [List.getElem_toArray, List.getElem_cons_zero, List.getElem_cons_succ, Act.put])
              refine wpAnyH_done (by kernel_rfl) ?_ _
              clear SR HS8
              go_wp2_with fail
              go_roundw
              case rel => exact ⟨j + 1, k, sa, _, _, _, _, n + 1, _, by omega, by omega, by go_num, HP, hv2⟩
              case measure => simp [intOf]; omega
            · refine wpOp_value (w' := W8.alloc (.cells #[.int .i32 z] 21)) (.slice (some ⟨W8.heap.size, 0, none⟩) 1 1) (by rfl) (by kernel_rfl) (by kernel_rfl) ⟨trivial, ?_⟩
              (try simp only [List.getElem_toArray, List.getElem_cons_zero, List.getElem_cons_succ, Act.put, List.setIfInBounds_toArray, List.set_cons_zero, List.set_cons_succ])
              refine wpAnyH_value 2 (.slice A n c) (by kernel_rfl) (by rfl) (by kernel_rfl) (exec_load (by rfl) (by rfl) (load_i32s (((HS8.out.nd.alloc _).cell 1).trans rfl))) trivial ?_
              (try simp only [List.getElem_toArray, List.getElem_cons_zero, List.getElem_cons_succ, Act.put, List.setIfInBounds_toArray, List.set_cons_zero, List.set_cons_succ])
              refine wpAnyH_pushJ 7 (by kernel_rfl) (by rfl) (.tmp 77) (.tmp 81) 37 21 1 4 _ rfl Try.underlying37 info_int32 rfl (by decide) W8 (N + 1) (.slice A n c) n (xs.map (.int .i32)) #[.int .i32 z] rfl (by kernel_rfl) rfl HS8.out.own rfl rfl (by simp [Value.oneCell']) (by omega) (by decide) HS8.out.sz ?_
              intro b c2 W9 ho hgr hb5 hat
              have HP := HS8.out.push HZW.out hgr hat ho
              have hq9 := HS8.out.nd.tch (grownBy_tchJ hgr) (fun h => by have := (HS8.out.own.lt _ h.symm).1; omega)
              have SR := store_i32s (A := some ⟨b, 0, none⟩) (n := n + 1) (c := c2) ((hq9.cell 1).trans rfl) (hq9.frozen 1) rfl
              obtain ⟨V, hV⟩ : ∃ V, W9.setCell ⟨N, 1, none⟩ (.slice (some ⟨b, 0, none⟩) (n + 1) c2) = V := ⟨_, rfl⟩
              rw [hV] at SR HP
              replace HP := Lib.hid HP
              clear hV ho hgr hb5 hat hq9
              refine ⟨trivial, ?_⟩
              (try simp only [List.getElem_toArray, List.getElem_cons_zero, List.getElem_cons_succ, Act.put, List.setIfInBounds_toArray, List.set_cons_zero, List.set_cons_succ])
              refine wpAnyH_take (i := 8) (v := .pointer (some ⟨N, 0, none⟩)) rfl (by kernel_rfl) (by kernel_rfl) (by kernel_rfl) (fun _ _ _ h => h) (.inl ⟨by rfl, fun _ _ => by kernel_rfl⟩) trivial ?_
              (try simp only [List.getElem_toArray, List.getElem_cons_zero, List.getElem_cons_succ, Act.put, List.setIfInBounds_toArray, List.set_cons_zero, List.set_cons_succ])
              refine wpAnyH_take (i := 9) (v := .pointer (some ⟨N, 1, none⟩)) rfl (by kernel_rfl) (by kernel_rfl) (by kernel_rfl) (fun _ _ _ h => h) (.inl ⟨by rfl, fun _ _ => by kernel_rfl⟩) trivial ?_
              (try simp only [List.getElem_toArray, List.getElem_cons_zero, List.getElem_cons_succ, Act.put, List.setIfInBounds_toArray, List.set_cons_zero, List.set_cons_succ])
              refine wpAnyH_store 10 _ _ _ (by kernel_rfl) (by rfl) (by kernel_rfl) (by rfl) (by rfl) (by rfl) SR trivial ?_
              (try simp only [List.getElem_toArray, List.getElem_cons_zero, List.getElem_cons_succ, Act.put])
              refine wpAnyH_done (by kernel_rfl) ?_ _
              clear SR HS8
              go_wp2_with fail
              go_roundw
              case rel => exact ⟨j + 1, k, sa, _, _, _, _, n + 1, _, by omega, by omega, by go_num, HP, hv2⟩
              case measure => simp [intOf]; omega
        · obtain ⟨rfl, rfl⟩ := vecR_stop hv.out (.inr he)
          have hvb : (s'.e == 0) = false := by simpa using he
          clear hv he
          go_wp2_with fail
          go_meet
          exact ⟨l', wy', A, n, c, by omega, hn⟩
  case rest =>
  obtain ⟨l', wy', A, n, c, hn4, hn⟩ := hcut
  obtain ⟨xs, hxs⟩ : ∃ x, vx = x := ⟨_, rfl⟩
  rw [hxs] at hn HN
  clear HV10 E5 hxs
  have hhl := HHL.out
  have LP17 := load_I hn.out.ig
  go_upto_region 18 with (first
    | refine wpList_loadT LP17 (by rfl) ?_
    | (go_at_call 30; (with_reducible refine (rf_takeE hn.out.iv 0 7 E6.out (lo' := 0) rfl (hi' := 7) rfl _).mono ?_); rintro e Wa17 ⟨la17, wa17, rfl, hti17, htb17⟩; have HA17 := Lib.hid (hn.out.below htb17); obtain ⟨Wb17, SR17, kb17, tb17⟩ := store_I (l := la17) (wy := wa17) (e := s6.e) HA17.out.ig rfl; have H17 := Lib.hid (HA17.out.put tb17 kb17 hti17); clear hti17 htb17 tb17 kb17 HA17)
    | refine wpList_storeE SR17 _ _ rfl rfl rfl rfl ?_)
  clear LP17 SR17 hn
  have c3 : Wb17.cell? ⟨N, 3, none⟩ = some (.int .i64 0) := H17.out.nd.cell 3
  have f3 := H17.out.nd.frozen 3
  go_upto_region 19 with fail
  obtain ⟨wm, hwm⟩ : ∃ x, Wb17.setCell ⟨N, 3, none⟩ (.int .i64 (hl : Nat)) = x := ⟨_, rfl⟩
  have HL0 := Lib.hid (NlS.start H17.out (by omega) (hl : Nat))
  rw [hwm] at HL0
  rw [hwm]
  have HVN : Hid ((⟨A, n, c, xs⟩ : IS).norm = isN xs) := norm_isN _ _ _ _ H17.out.len
  obtain ⟨vec, hvec⟩ : ∃ v : IS, ⟨A, n, c, xs⟩ = v := ⟨_, rfl⟩
  rw [hvec] at HL0 HVN
  obtain ⟨B3, hB3⟩ : ∃ v, Wb17.heap.size = v := ⟨_, rfl⟩
  rw [hB3] at HL0
  clear hvec hB3 hwm c3 f3 H17 E6
  go_upto_block 2 with fail
  go_cut [18, 19, 20] from 93 to 118 (fun _ _ _ wx => ∃ (ls : List IS) (l' : List Int) (wy' : Int) (A : Option Addr) (n c : Nat), n ≤ 8 ∧ Hid (NlS w N id tg hl vec B3 s7 ls wx l' wy' A n c) ∧ Hid (ls.map IS.norm = lx))
  case first =>
    go_upto_region 20 with fail
    go_loopw [18, 19, 20] (fun s18 _ _ wr => ∃ (lv k : Nat) (s' : RS) (ls : List IS) (l' : List Int) (wy' : Int) (A : Option Addr) (n c : Nat), lv + k = hl + 1 ∧ Hid (n = lv) ∧ n ≤ 8 ∧ s18 = .int .i64 lv ∧ Hid (NlS w N id tg hl vec B3 s' ls wr l' wy' A n c) ∧ Hid (lssR lk nn k lv s' (ls.map IS.norm) = (s7, lx))) (fun s18 _ _ _ => 8 - (intOf s18).toNat)
    case atStart => exact ⟨0, hl + 1, s6, [], _, _, none, 0, 0, by omega, (rfl : (0 : Nat) = 0), by omega, rfl, HL0, E7⟩
    case round =>
      obtain ⟨lv, k, s', ls, l', wy', A, n, c, hk, hnl, hn8, rfl, hn, hv⟩ := hrel
      clear HL0 E7
      have c2 : wr.cell? ⟨w.heap.size, 2, none⟩ = some (.int .i64 s'.e) := hn.out.ig.cell 2
      have c3 : wr.cell? ⟨N, 3, none⟩ = some (.int .i64 hl) := hn.out.nd.cell 3
      by_cases hk0 : k = 0
      · subst hk0
        obtain ⟨rfl, hlx⟩ := lssR_stop hv.out (.inl rfl)
        have hlv : ¬ (lv : Int) ≤ (hl : Int) := by omega
        have HLX := Lib.hid hlx
        clear hv hlx
        go_wp2_with fail
        go_meet
        exact ⟨ls, l', wy', A, n, c, hn8, hn, HLX⟩
      · obtain ⟨k, rfl⟩ : ∃ j, k = j + 1 := ⟨k - 1, by omega⟩
        have hlv : (lv : Int) ≤ (hl : Int) := by omega
        by_cases he : s'.e = 0
        · have hvb : (s'.e == 0) = true := by simpa using he
          have LP22 := load_I hn.out.ig
          have HLC := Lib.hid (fun W => rf_list hn.out.iv lk lv nn HNN.out.1 HNN.out.2 W)
          obtain ⟨sc, xl, ec⟩ : ∃ a b, lv1R lk nn lv s' = (a, b) := ⟨_, _, rfl⟩
          rw [ec] at HLC
          have hv2 : Hid (lssR lk nn k (lv + 1) sc (ls.map IS.norm ++ [isN xl]) = (s7, lx)) := by
            have := hv.out
            rw [lssR, if_pos he, ec] at this
            exact this
          clear hv he ec
          go_upto_region 23 with (first
            | refine wpList_loadT LP22 (by rfl) ?_
            | (go_at_call 55; (with_reducible refine (HLC.out _).mono ?_); rintro e W5 ⟨l5, wy5, A5, m5, c5, rfl, h5i, h5o, h5l, h5m, h5w, h5b⟩; have HS5 := Lib.hid (hn.out.below h5b); have H5I := Lib.hid h5i; have H5O := Lib.hid h5o; have H5L := Lib.hid h5l; have H5W := Lib.hid h5w; clear h5i h5b h5o h5l h5w LP22 c2 c3))
          obtain ⟨W6, hW6⟩ : ∃ q, W5.alloc (.cells #[.string (strOfNums l5), .int .i64 wy5, .int .i64 sc.e] 73) = q := ⟨_, rfl⟩
          have b6 : Below W5.heap.size W5 W6 := by rw [← hW6]; exact (Below.refl _ W5).alloc (Nat.le_refl _) _
          have k6 : Blk W6 W5.heap.size 73 #[.string (strOfNums l5), .int .i64 wy5, .int .i64 sc.e] := by rw [← hW6]; exact Blk.new _ _ _
          have HS6 := Lib.hid (HS5.out.below b6)
          have LP23 := load_I k6
          obtain ⟨W7, SR23, k7, t7⟩ := store_I (l := l5) (wy := wy5) (e := sc.e) HS6.out.ig rfl
          have HS7 := Lib.hid (HS6.out.put t7 k7 H5I.out)
          have H7O := Lib.hid (ownsRow_tchJ (ownsRow_tchJ H5O.out (Tch.of_below (S := fun _ => False) b6) fun _ _ h => h) t7 fun k hk => (by have := (H5O.out.lt k hk).1; have := hn.out.bel.size; omega))
          rw [hW6]
          have HB4 : Hid (∀ k, (Value.slice A n c).ownBlock = some k → k < wr.heap.size + 2) := fun k hk => by have := (hn.out.own.lt k hk).2; omega
          have HB34 : Hid (B3 ≤ wr.heap.size + 2) := by have := hn.out.b3; show _ ≤ _; omega
          clear hW6 k6 k7 t7 b6 HS5 HS6 H5I H5O hn HLC
          have c4 : W7.cell? ⟨N, 4, none⟩ = some (.slice A n c) := HS7.out.nd.cell 4
          go_wp2_with (first
            | refine wpList_loadT LP23 (by rfl) ?_
            | refine wpList_storeE SR23 _ _ rfl rfl rfl rfl ?_
            | (at_builtin; refine wpList_pushJ rfl (.tmp 114) (.tmp 116) 40 43 1 24 _ rfl Try.underlying40 info_ints rfl (by decide) W7 B3 (.slice A n c) n (ls.map IS.v) #[.slice A5 m5 c5] rfl HS7.out.own rfl rfl (by simp [Value.oneCell']) (by omega) (by decide) HS7.out.b3.2 ?_; intro b c8 W8 ho hgr hb5 hat; have HPP := Lib.hid (HS7.out.push HB4.out HB34.out H7O.out (by omega) H5W.out hgr hat ho); have hq5 := HS7.out.nd.tch (grownBy_tchJ hgr) (fun h => by have := (HS7.out.own.lt _ h.symm).1; have := HS7.out.b3.1; omega); have c45 : W8.cell? ⟨N, 4, none⟩ = some (.slice A n c) := hq5.cell 4; have f45 := hq5.frozen 4; clear ho hgr hb5 hat hq5 c4 LP23 SR23))
          go_roundw
          case rel => exact ⟨lv + 1, k, sc, _, _, _, _, n + 1, _, by omega, (by rw [hnl.out] : n + 1 = lv + 1), by have := hnl.out; omega, by go_num, HPP, by
            show lssR _ _ _ _ _ _ = _
            rw [List.map_append, List.map_singleton, norm_isN _ _ _ _ H5L.out]
            exact hv2.out⟩
          case measure => simp [intOf]; omega
        · have hvb : (s'.e == 0) = false := by simpa using he
          obtain ⟨rfl, hlx⟩ := lssR_stop hv.out (.inr he)
          have HLX := Lib.hid hlx
          clear he hv hlx
          go_wp2_with fail
          go_meet
          exact ⟨ls, l', wy', A, n, c, hn8, hn, HLX⟩
  case rest =>
  obtain ⟨ls, l', wy', A, n, c, hn8, hn, HLX⟩ := hcut
  clear HL0 E7
  have hnb : n ≤ 1048576 := by omega
  have LP25 := load_I hn.out.ig
  go_upto_region 26 with (first
    | refine wpList_loadT LP25 (by rfl) ?_
    | (go_at_call 30; (with_reducible refine (rf_takeE hn.out.iv 0 nm E8.out (lo' := 0) rfl (hi' := (nm : Nat)) rfl _).mono ?_); rintro e Wa25 ⟨la25, wa25, rfl, hti25, htb25⟩; have HA25 := Lib.hid (hn.out.below htb25); obtain ⟨Wb25, SR25, kb25, tb25⟩ := store_I (l := la25) (wy := wa25) (e := s8.e) HA25.out.ig rfl; have H25 := Lib.hid (HA25.out.put tb25 kb25 hti25); clear hti25 htb25 tb25 kb25 HA25)
    | refine wpList_storeE SR25 _ _ rfl rfl rfl rfl ?_)
  clear LP25 SR25 hn
  have LP26 := load_I H25.out.ig
  go_upto_region 27 with (first
    | refine wpList_loadT LP26 (by rfl) ?_
    | (go_at_call 30; (with_reducible refine (rf_takeE H25.out.iv 0 nm E9.out (lo' := 0) rfl (hi' := (nm : Nat)) rfl _).mono ?_); rintro e Wa26 ⟨la26, wa26, rfl, hti26, htb26⟩; have HA26 := Lib.hid (H25.out.below htb26); obtain ⟨Wb26, SR26, kb26, tb26⟩ := store_I (l := la26) (wy := wa26) (e := s9.e) HA26.out.ig rfl; have H26 := Lib.hid (HA26.out.put tb26 kb26 hti26); clear hti26 htb26 tb26 kb26 HA26)
    | refine wpList_storeE SR26 _ _ rfl rfl rfl rfl ?_)
  clear LP26 SR26 H25
  have c5 : Wb26.cell? ⟨N, 5, none⟩ = some (.int .i64 0) := H26.out.nd.cell 5
  have c6 : Wb26.cell? ⟨N, 6, none⟩ = some (.int .i64 0) := H26.out.nd.cell 6
  have f5 := H26.out.nd.frozen 5
  have f6 := H26.out.nd.frozen 6
  go_upto_region 29 with fail
  obtain ⟨V, hV⟩ : ∃ x, (Wb26.setCell ⟨N, 5, none⟩ (.int .i64 (nx : Nat))).setCell ⟨N, 6, none⟩ (.int .i64 (pv : Nat)) = x := ⟨_, rfl⟩
  rw [hV]
  have hln := H26.out.ln
  have hb3 := H26.out.b3
  obtain ⟨_, hat⟩ := H26.out.fin hnb nx pv (wf_u64K HID.out) (wf_u64K HTG.out) (wf_i64K (by have := HHL.out; omega)) (wf_i64K (by have := HNX.out; omega)) (wf_i64K (by have := HPV.out; omega))
  have tV : Tch (fun k => k = N) Wb26 V := by rw [← hV]; exact Tch.setCell (S := fun k => k = N) (Tch.setCell (S := fun k => k = N) (Tch.refl _ _) rfl _ _) rfl _ _
  have eN := (H26.out.nd.set_ 5 (.int .i64 (nx : Nat))).set_ 6 (.int .i64 (pv : Nat))
  rw [hV] at eN
  have KN : Hid (Blk V N 42 (ND.cells ⟨id, vec, tg, hl, A, n, c, ls, nx, pv⟩)) := by show Blk _ _ _ _; simpa [ND.cells] using eN
  have KG := Lib.hid (H26.out.ig.tch tV (by omega))
  have KR := Lib.hid (H26.out.ir.tch tV (by omega))
  have KI := Lib.hid (H26.out.inn.tch tV (by omega))
  have HAT : Hid (AtN V (fun k => N + 1 ≤ k ∧ k < V.heap.size) ⟨id, vec, tg, hl, A, n, c, ls, nx, pv⟩) := (hat.tch tV fun k hk => ⟨hk.2, by omega⟩).mono fun k hk => ⟨hk.1, by have := tV.size; omega⟩
  have HBV : Hid (Below w.heap.size w V) := H26.out.bel.trans (tV.below H26.out.bel.size fun k hk => by omega)
  have HLN := Lib.hid hln
  have HIV := Lib.hid H26.out.iv
  have HND : Hid ((ND.norm ⟨id, vec, tg, hl, A, n, c, ls, nx, pv⟩) = ndC id tg xs hl lx nx pv) := by
    show _ = _
    unfold ND.norm ndC
    rw [← HVN.out, ← HLX.out, List.length_map, H26.out.len]
  clear hV hat tV eN H26 c5 c6 f5 f6 hb3 hln
  obtain ⟨d, hd⟩ : ∃ d : ND, ⟨id, vec, tg, hl, A, n, c, ls, nx, pv⟩ = d := ⟨_, rfl⟩
  rw [hd] at KN HAT HND
  clear hd
  refine wp_region_held_drew (S := fun V' => Blk V' w.heap.size 73 #[.string (strOfNums la26), .int .i64 wa26, .int .i64 s9.e] ∧ Blk V' N 42 d.cells) (by kernel_rfl) ⟨KG.out.drewN 1, KN.out.drewN 1⟩ (fun hH => ?_)
  obtain ⟨U, hU⟩ : ∃ x, V.drew = x := ⟨_, rfl⟩
  have bU : Below V.heap.size V U := by rw [← hU]; exact below_drewN (Below.refl _ V) 1
  have KRU := KR.out.below bU KR.out.lt
  have KIU := KI.out.below bU KI.out.lt
  rw [hU] at hH ⊢
  clear hU
  obtain ⟨U1, SR1, k1, t1⟩ := store_I (l := la26) (wy := wa26) (e := s9.e) KRU rfl
  have hln9 := HLN.out
  have hH1 : Blk U1 w.heap.size 73 #[.string (strOfNums la26), .int .i64 wa26, .int .i64 s9.e] ∧ Blk U1 N 42 d.cells := ⟨hH.1.tch t1 (by omega), hH.2.tch t1 (by omega)⟩
  have KI1 := KIU.tch t1 (by omega)
  have SR2 := row_store KI1 d.cells rfl nodeTK (nz_cells _)
  obtain ⟨U2, hU2⟩ : ∃ x, U1.setCells (w.heap.size + 2) 0 d.cells.toList = x := ⟨_, rfl⟩
  have t2 : Tch (fun k => k = w.heap.size + 2) U1 U2 := by rw [← hU2]; exact Tch.setCells (S := fun k => k = w.heap.size + 2) rfl _ _ _ (Tch.refl _ _)
  have KI2 : Hid (Blk U2 (w.heap.size + 2) 42 d.cells) := by show Blk _ _ _ _; rw [← hU2]; exact KI1.put _ rfl
  have KR2 := Lib.hid (k1.tch t2 (by omega))
  have hH2 : Blk U2 w.heap.size 73 #[.string (strOfNums la26), .int .i64 wa26, .int .i64 s9.e] ∧ Blk U2 N 42 d.cells := ⟨hH1.1.tch t2 (by omega), hH1.2.tch t2 (by omega)⟩
  rw [hU2] at SR2
  have t12 : Tch (fun k => k = w.heap.size + 1 ∨ k = w.heap.size + 2) U U2 := (t1.mono fun k _ h => .inl h).trans t2 fun k h => .inl (.inr h)
  have HBE : Hid (Below w.heap.size w U2) := (HBV.out.trans (bU.mono HBV.out.size)).trans (t12.below (Nat.le_trans HBV.out.size bU.size) fun k hk => by omega)
  have hat9 : AtN U2 (fun k => w.heap.size ≤ k ∧ k < U2.heap.size) d := (((HAT.out.tch (Tch.of_below (S := fun _ => False) bU) fun k hk => ⟨hk.2, fun h => h⟩).tch t12 fun k hk => ⟨by have := bU.size; omega, by omega⟩)).mono fun k hk => ⟨by omega, by have := bU.size; have := t12.size; omega⟩
  clear hU2 t1 t2 t12 k1 KI1 KRU KIU bU
  refine wpAnyH_take (i := 0) (v := .agg #[.string (strOfNums la26), .int .i64 wa26, .int .i64 s9.e]) rfl (by kernel_rfl) (by kernel_rfl) (by kernel_rfl) (fun _ _ _ h => h) (yieldsIf_loadP (by rfl) _ rfl rfl (fun _ q => load_I q.1)) hH ?_
  (try simp only [List.getElem_toArray, List.getElem_cons_zero, Act.put, List.setIfInBounds_toArray, List.set_cons_zero, List.set_cons_succ])
  refine wpAnyH_take (i := 1) (v := .agg d.cells) rfl (by kernel_rfl) (by kernel_rfl) (by kernel_rfl) (fun _ _ _ h => h) (yieldsIf_loadP (by rfl) _ rfl rfl (fun _ q => node_loadK q.2)) hH ?_
  (try simp only [List.getElem_toArray, List.getElem_cons_zero, List.getElem_cons_succ, Act.put, List.setIfInBounds_toArray, List.set_cons_zero, List.set_cons_succ])
  refine wpAnyH_store 2 _ _ _ (by kernel_rfl) (by rfl) (by kernel_rfl) (by rfl) (by rfl) (by rfl) SR1 hH1 ?_
  (try simp only [List.getElem_toArray, List.getElem_cons_zero, List.getElem_cons_succ, Act.put])
  refine wpAnyH_store 3 _ _ _ (by kernel_rfl) (by rfl) (by kernel_rfl) (by rfl) (by rfl) (by rfl) SR2 hH2 ?_
  (try simp only [List.getElem_toArray, List.getElem_cons_zero, List.getElem_cons_succ, Act.put])
  refine wpAnyH_done (by kernel_rfl) ?_ _
  clear SR1 SR2 hH hH1 hH2
  go_wp2_with fail
  refine bodyPost_ret (v := .tuple #[.agg #[.string (strOfNums la26), .int .i64 wa26, .int .i64 s9.e], .agg d.cells]) (results_rows Try.results31 _ rfl rfl KR2.out KI2.out Try.underlying73 rfl tyI Try.underlying42 rfl nodeTK) rfl (by rw [HN.out]; exact ⟨la26, wa26, d, rfl, HIV.out, hat9, HND.out, HBE.out⟩)
end Go.Proofs.Ytbpcddimnbjoeaa
